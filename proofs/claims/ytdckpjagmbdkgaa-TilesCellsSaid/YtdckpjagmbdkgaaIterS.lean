import Derived.Test.YtdckpjagmbdkgaaIter
import Derived.WalkKit
import Derived.MapKept
import Derived.RangeFuncRecord
import Derived.Test.YtdckpjagmbdkgaaProg
import Derived.Test.YtdckpjagmbdkgaaAid
import Derived.ChangeKeysEq

/-
A range over a function that changes memory which the rounds read: the i-th round meets arguments of which S speaks; the blocks of Sh are the iterator's to change. Turned from XIter.
-/
namespace Go.Proofs.Ytdckpjagmbdkgaa
set_option linter.unusedSimpArgs false
set_option linter.unusedVariables false
open Go.RowKit

section
variable {P : Program}

/-- The contract of an iterator that yields n times; it reads the blocks of Own and changes those of Sh. -/
def IterS (P : Program) (g : FuncId) (lb : Array Value) (n : Nat) (S : Nat → (Nat → Prop) → Array Value → World → Prop) (Own Sh : Nat → Prop) (w : World) : Prop :=
  ∀ (l : Nat) (J Jx : Nat → (Nat → Prop) → World → Prop) (C : Nat → Prop) (W : World), w.heap.size ≤ W.heap.size →
    (∀ k, Own k → k < w.heap.size ∧ W.heap[k]? = w.heap[k]? ∧ ¬ C k) → (∀ k, Sh k → k < w.heap.size ∧ W.heap[k]? = w.heap[k]? ∧ ¬ C k) → Stable Own J → Stable Own Jx →
    (∀ i C args W1, i < n → S i C args W1 → J i C W1 → (∀ k, C k → k < W1.heap.size) → YieldAt Fence.wide 0 P l args W1 (RoundEnd J Jx i C W1)) →
    J 0 C W → (∀ k, C k → k < W.heap.size) →
    CallsIn Fence.wide 0 P g (#[.func (.yield l) #[] #[]] ++ lb) W fun e W' => (∃ v, e = .returned v) ∧ Only (fun k => Mine C W.heap.size k ∨ Sh k) W W' ∧
      ∃ C' : Nat → Prop, (∀ k, C' k → Mine C W.heap.size k ∧ k < W'.heap.size) ∧ (J n C' W' ∨ ∃ i, i ≤ n ∧ Jx i C' W')

/-- **The law of a range over a function.** -/
theorem wp_rangeS {g : Operand} {ps : Array Tmp} {assign body : Code} {Q : Exit → Act → World → Prop} {a : Act} {w : World} {gf : Nat} {lb : Array Value}
    (hg : a.eval g = .func (.func gf) #[] lb) (eg : ∀ args w, (callFunc gf args).run P w = .ok (.enter gf args) w)
    {n : Nat} {S : Nat → (Nat → Prop) → Array Value → World → Prop} {Own Sh : Nat → Prop} {w0 : World} (hseq : IterS P gf lb n S Own Sh w0) (h0w : w0.heap.size ≤ w.heap.size) (hps : ∀ i C args W, S i C args W → args.size = ps.size)
    (I : Nat → (Nat → Prop) → World → Prop) (Ix : Code → Nat → (Nat → Prop) → World → Prop) (hI : Stable Own I) (hIx : ∀ c, Stable Own (Ix c))
    (C0 : Nat → Prop) (hC0 : ∀ k, C0 k → k < w.heap.size) (hOwn : ∀ k, Own k → k < w0.heap.size ∧ w.heap[k]? = w0.heap[k]? ∧ ¬ C0 k) (hSh : ∀ k, Sh k → k < w0.heap.size ∧ w.heap[k]? = w0.heap[k]? ∧ ¬ C0 k) (h0 : I 0 C0 w)
    (hround : ∀ (l i : Nat) (C : Nat → Prop) (args : Array Value) (W : World), i < n → S i (fun k => C k ∨ k = w.heap.size ∨ k = l) args W → I i C W → (∀ k, C k → k < W.heap.size) → w.heap.size < W.heap.size → ¬ C l → l < W.heap.size → (∀ k, Own k → k ≠ l) →
      assign.wpIn (Fence.wide.inRound l) 0 P (Exit.then (fun a1 W1 => Only (Mine C W.heap.size) W W1 ∧ ∀ W2 : World, W2.heap.size = W1.heap.size → (∀ k, k ≠ l → W2.heap[k]? = W1.heap[k]?) →
          body.wpIn (Fence.wide.inRound l) 0 P (roundPostC I Ix i C W.heap.size W2) a1 W2) (fun _ _ _ => False))
        { tmps := (ps.zip args).foldl (fun t (p, v) => t.setIfInBounds p v) a.tmps, defers := [] } W)
    (hdone : ∀ (D : Nat) (C : Nat → Prop) (W : World), w.heap.size ≤ D → I n C W → Only (fun k => Mine C0 w.heap.size k ∨ Sh k) w W → W.heap[D]? = some (.deferred (some [])) → Q .normal { a with defers := { target := .collected D, args := #[] } :: a.defers } W)
    (hstop : ∀ (D i : Nat) (c : Code) (C : Nat → Prop) (W : World), w.heap.size ≤ D → i ≤ n → Ix c i C W → Only (fun k => Mine C0 w.heap.size k ∨ Sh k) w W → W.heap[D]? = some (.deferred (some [])) → c.wp P Q { a with defers := { target := .collected D, args := #[] } :: a.defers } W) :
    (Code.rangeFunc g ps assign body).wp P Q a w := by
  refine (wpIn_wide (n := 0)).1 ?_
  refine wpIn_rangeFunc ?_
  intro fn hfn
  show ∃ l mark w₁ d w₁' f args w₂, (Instr.enterLoop fn a.tmps ps assign body none).run P w = .ok (l, mark) w₁ ∧ _
  obtain ⟨rec, hrec⟩ : ∃ rec : LoopState → Option Code → Loop, rec = fun st pe => { state := st, pending := pe, fn, tmps := a.tmps, params := ps, assign, body, defers := w.heap.size } := ⟨_, rfl⟩
  obtain ⟨W1, hW1⟩ : ∃ W1, (w.alloc (.deferred (some []))).alloc (.loop (rec .ready none)) = W1 := ⟨_, rfl⟩
  have hs1 : W1.heap.size = w.heap.size + 2 := by rw [← hW1]; simp
  have hold : ∀ k, k < w.heap.size → W1.heap[k]? = w.heap[k]? := fun k hk => by
    rw [← hW1]; exact (Below.heap_alloc _ _ k (by simp; omega)).trans (Below.heap_alloc _ _ k hk)
  have hL1 : W1.heap[w.heap.size + 1]? = some (.loop (rec .ready none)) := by
    rw [← hW1]; have := World.alloc_heap_new (w.alloc (.deferred (some []))) (.loop (rec .ready none)); rwa [World.size_alloc] at this
  have hK1 : W1.heap[w.heap.size]? = some (.deferred (some [])) := by
    rw [← hW1]; exact (Below.heap_alloc _ _ _ (by simp)).trans (World.alloc_heap_new w _)
  have hO1 : Only (Mine C0 w.heap.size) w W1 := by
    rw [← hW1]; exact ((Only.refl _ w).alloc (fun k hk => .inr hk) _).alloc (fun k hk => .inr hk) _
  refine ⟨w.heap.size + 1, [{ target := .collected w.heap.size, args := #[] }], W1, { target := .fn (.func gf) lb, args := #[.func (.yield (w.heap.size + 1)) #[] #[]] }, W1, gf,
    #[.func (.yield (w.heap.size + 1)) #[] #[]] ++ lb, W1, ?_, ?_, fun f' _ => trivial, ?_, fun h => by simp [Fence.wide] at h, ?_⟩
  · rw [← hW1, hrec]; exact run_enterLoop_outer _ _ _ _ _
  · simp only [resolve, hg]
    simp [go_sem]
  · simp [invoke, go_sem, eg]
  · -- the footprint: the caller's blocks, the record and the block for the rounds' deferred calls
    refine (hseq (w.heap.size + 1)
      (fun i C W => ∃ C1 : Nat → Prop, (∀ k, C k ↔ C1 k ∨ k = w.heap.size ∨ k = w.heap.size + 1) ∧ (∀ k, C1 k → k ≠ w.heap.size ∧ k ≠ w.heap.size + 1) ∧ I i C1 W ∧ W.heap[w.heap.size + 1]? = some (.loop (rec .ready none)) ∧ W.heap[w.heap.size]? = some (.deferred (some [])))
      (fun i C W => ∃ C1 : Nat → Prop, (∀ k, C k ↔ C1 k ∨ k = w.heap.size ∨ k = w.heap.size + 1) ∧ (∀ k, C1 k → k ≠ w.heap.size ∧ k ≠ w.heap.size + 1) ∧ ∃ c, Ix c i C1 W ∧ W.heap[w.heap.size + 1]? = some (.loop (rec .done (some c))) ∧ W.heap[w.heap.size]? = some (.deferred (some [])))
      (fun k => C0 k ∨ k = w.heap.size ∨ k = w.heap.size + 1) W1 (by omega)
      (fun k hk => ?_) (fun k hk => ?_) ?_ ?_ ?_ ?_ ?_).mono ?_
    · obtain ⟨h1, h2, h3⟩ := hOwn k hk
      refine ⟨h1, (hold k (by omega)).trans h2, ?_⟩
      rintro (h | h | h)
      · exact h3 h
      · omega
      · omega
    · obtain ⟨h1, h2, h3⟩ := hSh k hk
      refine ⟨h1, (hold k (by omega)).trans h2, ?_⟩
      rintro (h | h | h)
      · exact h3 h
      · omega
      · omega
    · rintro i C W W' ⟨C1, hC1, hne, hi, hl, hk⟩ hsame hsz
      exact ⟨C1, hC1, hne, hI i C1 W W' hi (fun k h => hsame k (h.imp (fun h => (hC1 k).2 (.inl h)) id)) hsz, (hsame _ (.inl ((hC1 _).2 (.inr (.inr rfl))))).trans hl, (hsame _ (.inl ((hC1 _).2 (.inr (.inl rfl))))).trans hk⟩
    · rintro i C W W' ⟨C1, hC1, hne, c, hi, hl, hk⟩ hsame hsz
      exact ⟨C1, hC1, hne, c, hIx c i C1 W W' hi (fun k h => hsame k (h.imp (fun h => (hC1 k).2 (.inl h)) id)) hsz, (hsame _ (.inl ((hC1 _).2 (.inr (.inr rfl))))).trans hl, (hsame _ (.inl ((hC1 _).2 (.inr (.inl rfl))))).trans hk⟩
    · -- one round
      rintro i C args W hin hS ⟨C1, hC1, hne, hi, hl, hk⟩ hCs
      have hCe : C = fun k => C1 k ∨ k = w.heap.size ∨ k = w.heap.size + 1 := funext fun k => propext (hC1 k)
      have hlt : w.heap.size + 1 < W.heap.size := (Array.getElem?_eq_some_iff.1 hl).1
      have hy := run_yield (P := P) (args := args) hl (by rw [hrec]; exact hps _ _ _ _ hS)
      rw [hrec] at hy
      have hr := hround (w.heap.size + 1) i C1 args W hin (by rw [← hCe]; exact hS) hi (fun k h => hCs k ((hC1 k).2 (.inl h))) (by omega) (fun h => (hne _ h).2 rfl) hlt (fun k hk => by have := (hOwn k hk).1; omega)
      refine ⟨fn, _, assign, body, hy, roundIn_of_wpIn hfn (wpIn_mono hr ?_)⟩
      rintro e a1 W2 hp
      cases e with
      | normal =>
        obtain ⟨hO, hbody⟩ := hp
        have hnl : ∀ k, k = w.heap.size ∨ k = w.heap.size + 1 → ¬ Mine C1 W.heap.size k := by
          rintro k hk1 (h | h)
          · have := hne k h; omega
          · omega
        have hl2 : W2.heap[w.heap.size + 1]? = some (.loop (rec .ready none)) := (hO.block _ (hnl _ (.inr rfl))).trans hl
        have hk2 : W2.heap[w.heap.size]? = some (.deferred (some [])) := (hO.block _ (hnl _ (.inl rfl))).trans hk
        have hlt2 : w.heap.size + 1 < W2.heap.size := (Array.getElem?_eq_some_iff.1 hl2).1
        refine ⟨_, run_beginRound hl2 (by rw [hrec]), ?_⟩
        refine wpIn_mono (hbody _ (by simp [World.putObj]) (fun k hk => World.putObj_heap_other hk)) ?_
        have fin : ∀ (jump : Option Code) (W3 : World), Only (Mine C1 W.heap.size) (W2.putObj (w.heap.size + 1) (.loop { rec .ready none with state := .busy })) W3 →
            (Instr.endRound (w.heap.size + 1) jump).run P W3 = .ok (.bool jump.isNone) (W3.putObj (w.heap.size + 1) (.loop (rec (if jump.isNone then .ready else .done) jump))) ∧
            (W3.putObj (w.heap.size + 1) (.loop (rec (if jump.isNone then .ready else .done) jump))).heap[w.heap.size + 1]? = some (.loop (rec (if jump.isNone then .ready else .done) jump)) ∧
            (W3.putObj (w.heap.size + 1) (.loop (rec (if jump.isNone then .ready else .done) jump))).heap[w.heap.size]? = some (.deferred (some [])) ∧
            Only (Mine C W.heap.size) W (W3.putObj (w.heap.size + 1) (.loop (rec (if jump.isNone then .ready else .done) jump))) := fun jump W3 hO3 => by
          have hl3 : W3.heap[w.heap.size + 1]? = some (.loop { rec .ready none with state := .busy }) := (hO3.block _ (hnl _ (.inr rfl))).trans (World.putObj_heap_same hlt2)
          have hk3 : W3.heap[w.heap.size]? = some (.deferred (some [])) := (hO3.block _ (hnl _ (.inl rfl))).trans ((World.putObj_heap_other (by omega)).trans hk2)
          have := run_endRound (P := P) jump hl3
          rw [hrec] at this ⊢
          have hm : ∀ k, Mine C1 W.heap.size k → Mine C W.heap.size k := fun k h => by
            rcases h with h | h
            · exact .inl ((hC1 k).2 (.inl h))
            · exact .inr h
          refine ⟨this, World.putObj_heap_same (Array.getElem?_eq_some_iff.1 hl3).1, (World.putObj_heap_other (by omega)).trans hk3, ?_⟩
          exact (((hO.mono hm).trans (only_putObj W2 (.inl ((hC1 _).2 (.inr (.inr rfl)))) _)).trans (by rw [hrec] at hO3; exact hO3.mono hm)).trans (only_putObj W3 (.inl ((hC1 _).2 (.inr (.inr rfl)))) _)
        have foot : ∀ (C' : Nat → Prop) (W3 : World) (o : Obj), Only (Mine C1 W.heap.size) (W2.putObj (w.heap.size + 1) (.loop { rec .ready none with state := .busy })) W3 → (∀ k, C' k → Mine C1 W.heap.size k ∧ k < W3.heap.size) →
            (∀ k, (C' k ∨ k = w.heap.size ∨ k = w.heap.size + 1) → Mine C W.heap.size k ∧ k < (W3.putObj (w.heap.size + 1) o).heap.size) ∧ (∀ k, C' k → k ≠ w.heap.size ∧ k ≠ w.heap.size + 1) := fun C' W3 o hO3 hC' => by
          have hsz3 : W2.heap.size ≤ W3.heap.size := by have := hO3.size; simpa [World.putObj] using this
          refine ⟨?_, ?_⟩
          · rintro k (h | h | h)
            · obtain ⟨h1, h2⟩ := hC' k h
              refine ⟨?_, by simpa [World.putObj] using h2⟩
              rcases h1 with h1 | h1
              · exact .inl ((hC1 k).2 (.inl h1))
              · exact .inr h1
            · exact ⟨.inl ((hC1 k).2 (.inr (.inl h))), by simp [World.putObj]; omega⟩
            · exact ⟨.inl ((hC1 k).2 (.inr (.inr h))), by simp [World.putObj]; omega⟩
          · intro k h
            obtain ⟨h1, _⟩ := hC' k h
            rcases h1 with h1 | h1
            · exact hne k h1
            · omega
        have still : ∀ (C' : Nat → Prop) (W3 : World) (o : Obj), (∀ k, C' k → k ≠ w.heap.size ∧ k ≠ w.heap.size + 1) → ∀ k, C' k ∨ Own k → (W3.putObj (w.heap.size + 1) o).heap[k]? = W3.heap[k]? := fun C' W3 o h k hk => World.putObj_heap_other (by
          rcases hk with hk | hk
          · exact (h k hk).2
          · have := (hOwn k hk).1; omega)
        rintro e a3 W3 hp
        cases e with
        | normal =>
          obtain ⟨hO3, C', hC', hi3⟩ := hp
          obtain ⟨hr, hl4, hk4, hO4⟩ := fin none W3 hO3
          obtain ⟨hf1, hf2⟩ := foot C' W3 (.loop (rec .ready none)) hO3 hC'
          exact ⟨_, _, hr, hO4, fun k => C' k ∨ k = w.heap.size ∨ k = w.heap.size + 1, hf1, .inl ⟨rfl, C', fun k => Iff.rfl, hf2, hI _ C' W3 _ hi3 (still C' W3 _ hf2) (by simp [World.putObj]), hl4, hk4⟩⟩
        | ret =>
          obtain ⟨hO3, C', hC', hi3⟩ := hp
          obtain ⟨hr, hl4, hk4, hO4⟩ := fin (some .ret) W3 hO3
          obtain ⟨hf1, hf2⟩ := foot C' W3 (.loop (rec .done (some .ret))) hO3 hC'
          exact ⟨_, _, hr, hO4, fun k => C' k ∨ k = w.heap.size ∨ k = w.heap.size + 1, hf1, .inr ⟨rfl, C', fun k => Iff.rfl, hf2, .ret, hIx _ _ C' W3 _ hi3 (still C' W3 _ hf2) (by simp [World.putObj]), hl4, hk4⟩⟩
        | exit id =>
          obtain ⟨hO3, C', hC', hi3⟩ := hp
          obtain ⟨hr, hl4, hk4, hO4⟩ := fin (some (.exit id)) W3 hO3
          obtain ⟨hf1, hf2⟩ := foot C' W3 (.loop (rec .done (some (.exit id)))) hO3 hC'
          exact ⟨_, _, hr, hO4, fun k => C' k ∨ k = w.heap.size ∨ k = w.heap.size + 1, hf1, .inr ⟨rfl, C', fun k => Iff.rfl, hf2, .exit id, hIx _ _ C' W3 _ hi3 (still C' W3 _ hf2) (by simp [World.putObj]), hl4, hk4⟩⟩
        | goto t =>
          obtain ⟨hO3, C', hC', hi3⟩ := hp
          obtain ⟨hr, hl4, hk4, hO4⟩ := fin (some (.goto t)) W3 hO3
          obtain ⟨hf1, hf2⟩ := foot C' W3 (.loop (rec .done (some (.goto t)))) hO3 hC'
          exact ⟨_, _, hr, hO4, fun k => C' k ∨ k = w.heap.size ∨ k = w.heap.size + 1, hf1, .inr ⟨rfl, C', fun k => Iff.rfl, hf2, .goto t, hIx _ _ C' W3 _ hi3 (still C' W3 _ hf2) (by simp [World.putObj]), hl4, hk4⟩⟩
        | panic ch => exact hp.elim
        | outgrown => exact hp.elim
      | ret => exact hp.elim
      | exit id => exact hp.elim
      | goto t => exact hp.elim
      | panic ch => exact hp.elim
      | outgrown => exact hp.elim
    · exact ⟨C0, fun k => Iff.rfl, fun k h => by have := hC0 k h; omega, hI 0 C0 w W1 h0 (fun k h => hold k (h.elim (hC0 k) (fun h => Nat.lt_of_lt_of_le (hOwn k h).1 h0w))) (by omega), hL1, hK1⟩
    · rintro k (h | h | h)
      · have := hC0 k h; omega
      · omega
      · omega
    · -- behind the iterator
      rintro e W2 ⟨⟨v, rfl⟩, hO2, C', hC', hJ⟩
      have hmine : ∀ k, Mine (fun k => C0 k ∨ k = w.heap.size ∨ k = w.heap.size + 1) W1.heap.size k → Mine C0 w.heap.size k := by
        rintro k ((h | h | h) | h)
        · exact .inl h
        · exact .inr (by omega)
        · exact .inr (by omega)
        · exact .inr (by omega)
      have hOw : Only (fun k => Mine C0 w.heap.size k ∨ Sh k) w W2 := (hO1.mono (fun k h => .inl h)).trans (hO2.mono (fun k h => h.imp (hmine k) id))
      rcases hJ with ⟨C1, hC1, hne, hi, hl, hk⟩ | ⟨i, hile, C1, hC1, hne, c, hi, hl, hk⟩
      · have hel := run_endLoop (P := P) hl (by rw [hrec]; simp)
        rw [hrec] at hel
        refine ⟨none, _, hel, ?_⟩
        exact hdone w.heap.size C1 _ (Nat.le_refl _) (hI _ C1 W2 _ hi (fun k h => World.putObj_heap_other (h.elim (fun h => (hne k h).2) (fun h => by have := (hOwn k h).1; omega))) (by simp [World.putObj])) (hOw.trans (only_putObj W2 (.inl (.inr (by omega))) _)) ((World.putObj_heap_other (by omega)).trans hk)
      · have hel := run_endLoop (P := P) hl (by rw [hrec]; simp)
        rw [hrec] at hel
        refine ⟨some c, _, hel, ?_⟩
        refine (wpIn_wide (n := 0)).2 ?_
        exact hstop w.heap.size i c C1 _ (Nat.le_refl _) hile (hIx c _ C1 W2 _ hi (fun k h => World.putObj_heap_other (h.elim (fun h => (hne k h).2) (fun h => by have := (hOwn k h).1; omega))) (by simp [World.putObj])) (hOw.trans (only_putObj W2 (.inl (.inr (by omega))) _)) ((World.putObj_heap_other (by omega)).trans hk)
end
end Go.Proofs.Ytdckpjagmbdkgaa

/- Maps as lists of pairs in the order in which they came: a look, a store, a removal. Over any program. -/
namespace Go.Proofs.Ytdckpjagmbdkgaa
set_option linter.unusedSimpArgs false
set_option linter.unusedVariables false
open Go.RowKit

section
variable {α β : Type} [DecidableEq α]

def mlook (a : α) : List (α × β) → Option β
  | [] => none
  | (k, v) :: r => if a = k then some v else mlook a r
def mput (a : α) (b : β) : List (α × β) → List (α × β)
  | [] => [(a, b)]
  | (k, v) :: r => if a = k then (a, b) :: r else (k, v) :: mput a b r
def mdrop (a : α) : List (α × β) → List (α × β)
  | [] => []
  | (k, v) :: r => if a = k then r else (k, v) :: mdrop a r
/-- The place of a key, counted from i on. -/
def mfind (a : α) : List (α × β) → Nat → Option (Nat × β)
  | [], _ => none
  | (k, v) :: r, i => if a = k then some (i, v) else mfind a r (i + 1)

theorem mfind_look (a : α) : ∀ (l : List (α × β)) (i : Nat), (mfind a l i).map (·.2) = mlook a l
  | [], _ => rfl
  | (k, v) :: r, i => by
    unfold mfind mlook
    by_cases h : a = k
    · simp [h]
    · simp [h, mfind_look a r]

theorem mfind_none {a : α} : ∀ {l : List (α × β)} {i : Nat} (b : β), mfind a l i = none → mput a b l = l ++ [(a, b)] ∧ mdrop a l = l
  | [], _, _, _ => ⟨rfl, rfl⟩
  | (k, v) :: r, i, b, h => by
    unfold mfind at h
    by_cases hk : a = k
    · rw [if_pos hk] at h; cases h
    · rw [if_neg hk] at h
      obtain ⟨h1, h2⟩ := mfind_none b h
      exact ⟨by unfold mput; rw [if_neg hk, h1]; rfl, by unfold mdrop; rw [if_neg hk, h2]⟩

theorem mfind_some {a : α} : ∀ {l : List (α × β)} {i j : Nat} {v : β} (b : β), mfind a l i = some (j, v) → i ≤ j ∧ l[j - i]? = some (a, v) ∧ mput a b l = l.set (j - i) (a, b) ∧ mdrop a l = l.eraseIdx (j - i)
  | (k, x) :: r, i, j, v, b, h => by
    unfold mfind at h
    by_cases hk : a = k
    · rw [if_pos hk] at h
      simp only [Option.some.injEq, Prod.mk.injEq] at h
      obtain ⟨rfl, rfl⟩ := h
      subst hk
      simp [mput, mdrop]
    · rw [if_neg hk] at h
      obtain ⟨h1, h2, h3, h4⟩ := mfind_some b h
      obtain ⟨d, hd⟩ : ∃ d, j - i = d + 1 := ⟨j - i - 1, by omega⟩
      have hd' : j - (i + 1) = d := by omega
      rw [hd'] at h2 h3 h4
      refine ⟨by omega, ?_, ?_, ?_⟩
      · rw [hd]; simpa using h2
      · rw [hd]; unfold mput; rw [if_neg hk, h3]; rfl
      · rw [hd]; unfold mdrop; rw [if_neg hk, h4]; rfl
end

/-- The entries of a map read as a list of pairs. -/
def Reads {α β : Type} (encK : α → Value) (encV : β → Value) (es : List MapEntry) (kv : List (α × β)) : Prop := es.map (fun e => (e.key, e.val)) = kv.map (fun p => (encK p.1, encV p.2))

/-- Keys of a kind: they can be keys, and the search finds them. -/
structure Keys {α : Type} [DecidableEq α] (P : Program) (kt : TypeId) (encK : α → Value) : Prop where
  check : ∀ (e : Bool) (a : α) (w : World), (Instr.checkKey e 10000 kt (encK a)).run P w = .ok () w
  find : ∀ {β : Type} (encV : β → Value) (a : α) (es : List MapEntry) (kv : List (α × β)) (w : World), Reads encK encV es kv → (Instr.findKey kt (encK a) es).run P w = .ok ((mfind a kv 0).map fun p => (p.1, encV p.2)) w
  same : ∀ a, Instr.sameBits 10000 (encK a) (encK a) = true

/-- The stamps of the entries: older than the clock, no two alike. -/
def Stamps (es : List MapEntry) (clock : Nat) : Prop := (∀ x ∈ es, x.born < clock) ∧ (es.map (·.born)).Nodup

theorem Stamps.born {es : List MapEntry} {clock : Nat} (h : Stamps es clock) {es' : List MapEntry} (he : (es'.map (·.born)).Sublist (es.map (·.born))) : Stamps es' clock := by
  refine ⟨fun x hx => ?_, h.2.sublist he⟩
  obtain ⟨y, hy, hyx⟩ := List.mem_map.1 (he.subset (List.mem_map.2 ⟨x, hx, rfl⟩))
  rw [← hyx]
  exact h.1 y hy

theorem Stamps.push {es : List MapEntry} {clock : Nat} (h : Stamps es clock) (e : MapEntry) (he : e.born = clock) : Stamps (es ++ [e]) (clock + 1) := by
  refine ⟨fun x hx => ?_, ?_⟩
  · rcases List.mem_append.1 hx with hx | hx
    · have := h.1 x hx; omega
    · cases List.mem_singleton.1 hx; omega
  · rw [List.map_append, List.nodup_append]
    refine ⟨h.2, by simp, fun a ha b hb => ?_⟩
    obtain ⟨x, hx, rfl⟩ := List.mem_map.1 ha
    simp at hb
    have := h.1 x hx
    omega

/-- Block b is a map that reads so. -/
def MapAt {α β : Type} (w : World) (encK : α → Value) (encV : β → Value) (b : Nat) (kv : List (α × β)) : Prop := ∃ es clock, w.heap[b]? = some (.map es clock) ∧ Reads encK encV es.toList kv ∧ Stamps es.toList clock

theorem MapAt.of_heap {α β : Type} {w w' : World} {encK : α → Value} {encV : β → Value} {b : Nat} {kv : List (α × β)} (h : MapAt w encK encV b kv) (hh : w'.heap[b]? = w.heap[b]?) : MapAt w' encK encV b kv := by
  obtain ⟨es, clock, h1, h2⟩ := h
  exact ⟨es, clock, hh.trans h1, h2⟩

theorem mapAt_new {α β : Type} (w : World) (encK : α → Value) (encV : β → Value) : MapAt (w.alloc (.map #[] 0)) encK encV w.heap.size ([] : List (α × β)) := by
  refine ⟨#[], 0, ?_, rfl, by simp, by simp⟩
  show (w.heap.push _)[w.heap.size]? = _
  simp

theorem MapAt.lt {α β : Type} {w : World} {encK : α → Value} {encV : β → Value} {b : Nat} {kv : List (α × β)} (h : MapAt w encK encV b kv) : b < w.heap.size := by
  obtain ⟨es, clock, h1, _⟩ := h
  exact (Array.getElem?_eq_some_iff.1 h1).1

theorem reads_length {α β : Type} {encK : α → Value} {encV : β → Value} {es : List MapEntry} {kv : List (α × β)} (h : Reads encK encV es kv) : es.length = kv.length := by
  have := congrArg List.length h
  simpa using this

theorem MapAt.len {α β : Type} {P : Program} {kt et t : TypeId} {encK : α → Value} {encV : β → Value} {w : World} {b : Nat} {kv : List (α × β)} (h : MapAt w encK encV b kv) (ht : P.underlying t = some (.map kt et)) (ty : TypeId) :
    (Builtin.len_ #[t] ty #[.map (some b)]).run P w = .ok (.int .i64 kv.length) w := by
  obtain ⟨es, clock, h1, h2, h0⟩ := h
  have hl := reads_length h2
  simp at hl
  simp [Builtin.len_, run_underlying ht, MapKept.run_getObj_map h1, Result.andThen, goInt, hl]

theorem map_eraseIdx' {α β : Type} (f : α → β) : ∀ (l : List α) (j : Nat), (l.eraseIdx j).map f = (l.map f).eraseIdx j
  | [], _ => by simp
  | a :: l, 0 => by simp
  | a :: l, j + 1 => by simp [map_eraseIdx' f l j]

section
variable {α β : Type} [DecidableEq α] {P : Program} {kt et t : TypeId} {encK : α → Value} {encV : β → Value}

theorem MapAt.look {w : World} {b : Nat} {kv : List (α × β)} (h : MapAt w encK encV b kv) (K : Keys P kt encK) (ht : P.underlying t = some (.map kt et)) (a : α) {z : Value} (hz : (zeroValue et).run P w = .ok z w) (commaOk : Bool) :
    (Instr.lookup t (.map (some b)) (encK a) commaOk).run P w = .ok (if commaOk then .tuple #[((mlook a kv).map encV).getD z, .bool (mlook a kv).isSome] else ((mlook a kv).map encV).getD z) w := by
  obtain ⟨es, clock, h1, h2, h0⟩ := h
  have hf := K.find encV a es.toList kv w h2
  have hl := mfind_look a kv 0
  cases hm : mfind a kv 0 with
  | none =>
    rw [hm] at hl hf
    simp only [Option.map_none] at hl hf
    rw [← hl]
    cases commaOk <;> simp [Instr.lookup, run_underlying ht, MapKept.run_getObj_map h1, K.check _ a w, hf, hz, Result.andThen]
  | some p =>
    rw [hm] at hl hf
    simp only [Option.map_some] at hl hf
    rw [← hl]
    cases commaOk <;> simp [Instr.lookup, run_underlying ht, MapKept.run_getObj_map h1, K.check _ a w, hf, Result.andThen]

theorem MapAt.put {w : World} {b : Nat} {kv : List (α × β)} (h : MapAt w encK encV b kv) (K : Keys P kt encK) (ht : P.underlying t = some (.map kt et)) (a : α) (v : β) :
    ∃ o, (Instr.mapUpdate t (.map (some b)) (encK a) (encV v)).run P w = .ok () (w.putObj b o) ∧ MapAt (w.putObj b o) encK encV b (mput a v kv) := by
  have hlt := h.lt
  obtain ⟨es, clock, h1, h2, h0⟩ := h
  have hf := K.find encV a es.toList kv w h2
  cases hm : mfind a kv 0 with
  | none =>
    rw [hm] at hf
    simp only [Option.map_none] at hf
    refine ⟨.map (es.push ⟨encK a, encV v, clock⟩) (clock + 1), ?_, _, _, World.putObj_heap_same hlt, ?_, ?_⟩
    · simp [Instr.mapUpdate, run_underlying ht, MapKept.run_getObj_map h1, K.check _ a w, hf, MapKept.run_setObj_map _ h1, Result.andThen, World.putObj]
    · rw [(mfind_none v hm).1]
      unfold Reads at *
      simp [h2]
    · rw [Array.toList_push]
      exact h0.push _ rfl
  | some p =>
    obtain ⟨j, x⟩ := p
    rw [hm] at hf
    simp only [Option.map_some] at hf
    obtain ⟨_, hj, hp, _⟩ := mfind_some v hm
    simp only [Nat.sub_zero] at hj hp
    have hke : ∃ e, es.toList[j]? = some e ∧ e.key = encK a := by
      have := congrArg (fun l => l[j]?) h2
      simp only [List.getElem?_map, hj, Option.map_some] at this
      cases he : es.toList[j]? with
      | none => rw [he] at this; cases this
      | some e => rw [he] at this; simp only [Option.map_some, Option.some.injEq, Prod.mk.injEq] at this; exact ⟨e, rfl, this.1⟩
    obtain ⟨e, he, hek⟩ := hke
    have hee : es[j]? = some e := by simpa using he
    have hst : (Instr.keyThatStays (encK a) (encK a)).run P w = .ok (encK a) w := by
      simp [Instr.keyThatStays, K.same a]
    refine ⟨.map (es.modify j fun e => { e with key := encK a, val := encV v }) clock, ?_, _, _, World.putObj_heap_same hlt, ?_, ?_⟩
    · simp [Instr.mapUpdate, run_underlying ht, MapKept.run_getObj_map h1, K.check _ a w, hf, MapKept.run_setObj_map _ h1, Result.andThen, World.putObj, hee, hek, hst]
    · rw [hp]
      unfold Reads at *
      rw [Array.toList_modify]
      apply List.ext_getElem?
      intro i
      have hi := congrArg (fun l => l[i]?) h2
      simp only [List.getElem?_map] at hi
      simp only [List.getElem?_map, List.getElem?_modify, List.getElem?_set]
      by_cases hij : j = i
      · subst hij
        have hjl := (List.getElem?_eq_some_iff.1 hj).1
        rw [he]
        simp [hjl]
      · simp only [hij, if_false]
        rw [← hi]
        cases es.toList[i]? <;> rfl
    · refine h0.born ?_
      have : ((es.modify j fun e => { e with key := encK a, val := encV v }).toList.map (·.born)) = es.toList.map (·.born) := by
        rw [Array.toList_modify]
        apply List.ext_getElem?
        intro i
        simp only [List.getElem?_map, List.getElem?_modify]
        split
        · cases es.toList[i]? <;> rfl
        · cases es.toList[i]? <;> rfl
      rw [this]
      exact List.Sublist.refl _

theorem MapAt.drop {w : World} {b : Nat} {kv : List (α × β)} (h : MapAt w encK encV b kv) (K : Keys P kt encK) (ht : P.underlying t = some (.map kt et)) (a : α) (ty : TypeId) :
    ∃ o, (Builtin.delete_ #[t, kt] ty #[.map (some b), encK a]).run P w = .ok (.tuple #[]) (w.putObj b o) ∧ MapAt (w.putObj b o) encK encV b (mdrop a kv) := by
  have hlt := h.lt
  obtain ⟨es, clock, h1, h2, h0⟩ := h
  have hf := K.find encV a es.toList kv w h2
  cases hm : mfind a kv 0 with
  | none =>
    rw [hm] at hf
    simp only [Option.map_none] at hf
    refine ⟨.map es clock, ?_, _, _, World.putObj_heap_same hlt, ?_, ?_⟩
    · simp [Builtin.delete_, run_underlying ht, MapKept.run_getObj_map h1, K.check _ a w, hf, MapKept.run_setObj_map _ h1, Result.andThen, World.putObj]
    · have hd : mdrop a kv = kv := by
        clear hf h2 h1
        have : ∀ (l : List (α × β)) (i : Nat), mfind a l i = none → mdrop a l = l := by
          intro l
          induction l with
          | nil => intro i _; rfl
          | cons p r ih =>
            intro i h
            obtain ⟨k, v⟩ := p
            unfold mfind at h
            by_cases hk : a = k
            · rw [if_pos hk] at h; cases h
            · rw [if_neg hk] at h
              unfold mdrop
              rw [if_neg hk, ih _ h]
        exact this kv 0 hm
      rw [hd]
      exact h2
    · exact h0
  | some p =>
    obtain ⟨j, x⟩ := p
    rw [hm] at hf
    simp only [Option.map_some] at hf
    obtain ⟨_, hj, _, hp⟩ := mfind_some x hm
    simp only [Nat.sub_zero] at hj hp
    have hjl : j < es.size := by
      have h3 := (List.getElem?_eq_some_iff.1 hj).1
      have h4 := reads_length h2
      simp at h4
      omega
    refine ⟨.map (es.eraseIdxIfInBounds j) clock, ?_, _, _, World.putObj_heap_same hlt, ?_, ?_⟩
    · simp [Builtin.delete_, run_underlying ht, MapKept.run_getObj_map h1, K.check _ a w, hf, MapKept.run_setObj_map _ h1, Result.andThen, World.putObj]
    · rw [hp]
      unfold Reads at *
      have hsub : (es.eraseIdxIfInBounds j).toList = es.toList.eraseIdx j := by
        unfold Array.eraseIdxIfInBounds
        rw [dif_pos hjl]
        simp
      rw [hsub]
      have : ∀ (l : List MapEntry) (m : List (α × β)) (j : Nat), l.map (fun e => (e.key, e.val)) = m.map (fun p => (encK p.1, encV p.2)) → (l.eraseIdx j).map (fun e => (e.key, e.val)) = (m.eraseIdx j).map (fun p => (encK p.1, encV p.2)) := by
        intro l m j h
        rw [map_eraseIdx', map_eraseIdx', h]
      exact this _ _ _ h2
    · have hsub : (es.eraseIdxIfInBounds j).toList = es.toList.eraseIdx j := by
        unfold Array.eraseIdxIfInBounds
        rw [dif_pos hjl]
        simp
      rw [hsub]
      exact h0.born ((List.eraseIdx_sublist _ _).map _)
end


/-- Keys that are numbers. -/
theorem keys_int {P : Program} {kt : TypeId} (h : P.underlying kt = some (.int .i64)) : Keys P kt (fun n : Nat => Value.int .i64 n) := by
  have hnow : ∀ {β : Type} (encV : β → Value) (a : Nat) (kv : List (Nat × β)) (es : List MapEntry) (i : Nat), Reads (fun n : Nat => Value.int .i64 n) encV es kv →
      Instr.findNow (.int .i64) (.int .i64 a) es i = some ((mfind a kv i).map fun p => (p.1, encV p.2)) := by
    intro β encV a kv
    induction kv with
    | nil =>
      intro es i hr
      cases es with
      | nil => rfl
      | cons e es => cases hr
    | cons p kv ih =>
      intro es i hr
      obtain ⟨k, v⟩ := p
      cases es with
      | nil => cases hr
      | cons e es =>
        unfold Reads at hr
        simp only [List.map_cons, List.cons.injEq, Prod.mk.injEq] at hr
        obtain ⟨⟨h1, h2⟩, h3⟩ := hr
        unfold Instr.findNow mfind
        rw [h1]
        by_cases hk : a = k
        · subst hk
          simp [Instr.sameNow, h2]
        · have : ((a : Int) == (k : Int)) = false := by rw [beq_eq_false_iff_ne]; omega
          simp only [Instr.sameNow, this, if_neg hk]
          exact ih es (i + 1) h3
  refine ⟨?_, ?_, ?_⟩
  · intro e a w
    unfold Instr.checkKey
    simp [Sem.run_bind, run_underlying h, Result.andThen]
  · intro β encV a es kv w hr
    unfold Instr.findKey
    simp only [Sem.run_bind, run_underlying h, Result.andThen, hnow encV a kv es 0 hr]
    rfl
  · intro a
    simp [Instr.sameBits]
theorem keys_num : Keys Try.prog 3 (fun n : Nat => Value.int .i64 n) := keys_int Try.underlying3
end Go.Proofs.Ytdckpjagmbdkgaa

/- Pairs of numbers as keys of a map. -/
namespace Go.Proofs.Ytdckpjagmbdkgaa
set_option linter.unusedSimpArgs false
set_option linter.unusedVariables false
open Go.RowKit

def encPair (p : Nat × Nat) : Value := .agg #[.int .i64 p.1, .int .i64 p.2]

theorem cells93 : Try.prog.cellsOf 3 = 1 := by kernel_rfl
theorem run_part93 (x y : Int) (w : World) : (part 3 #[.int .i64 x, .int .i64 y] 0).run Try.prog w = .ok (.int .i64 x) w := by kernel_rfl
theorem run_part93b (x y : Int) (w : World) : (part 3 #[.int .i64 x, .int .i64 y] 1).run Try.prog w = .ok (.int .i64 y) w := by kernel_rfl

theorem some93 : (Try.prog.info? 3).isSome = true := by kernel_rfl
theorem run_equal_pair (a b : Nat × Nat) (w : World) : (Op.equal 93 (encPair a) (encPair b)).run Try.prog w = .ok (decide (a = b)) w := by
  obtain ⟨i, hi⟩ := Option.isSome_iff_exists.1 some93
  unfold Op.equal encPair Op.maxDepth
  rw [run_equalIn_array w 9999 (e := 3) (n := 2) _ _ Try.underlying93 hi]
  rw [show List.range 2 = [0, 1] from rfl]
  simp only [Op.eqItems, cells93, Nat.zero_mul, Nat.one_mul, Sem.run_bind, run_part93, run_part93b, Result.andThen_ok, run_equalIn_int w 9998 3 .i64 .i64 _ _ Try.underlying3, Sem.run_ite, Sem.run_pure]
  by_cases h1 : a.1 = b.1
  · by_cases h2 : a.2 = b.2
    · have e : a = b := Prod.ext h1 h2
      simp [e]
    · have e : a ≠ b := fun e => h2 (by rw [e])
      have : ((a.2 : Int) == (b.2 : Int)) = false := by rw [beq_eq_false_iff_ne]; omega
      simp [h1, this, e]
  · have e : a ≠ b := fun e => h1 (by rw [e])
    have : ((a.1 : Int) == (b.1 : Int)) = false := by rw [beq_eq_false_iff_ne]; omega
    simp [this, e]

theorem run_checkKey_pair (e : Bool) (a : Nat × Nat) (w : World) : (Instr.checkKey e 10000 93 (encPair a)).run Try.prog w = .ok () w := by
  kernel_rfl

theorem keys_pair : Keys Try.prog 93 encPair := by
  have hask : ∀ {β : Type} (encV : β → Value) (a : Nat × Nat) (kv : List ((Nat × Nat) × β)) (es : List MapEntry) (i : Nat) (w : World), Reads encPair encV es kv →
      (Instr.findAsking 93 (encPair a) es i).run Try.prog w = .ok ((mfind a kv i).map fun p => (p.1, encV p.2)) w := by
    intro β encV a kv
    induction kv with
    | nil =>
      intro es i w hr
      cases es with
      | nil => rfl
      | cons e es => cases hr
    | cons p kv ih =>
      intro es i w hr
      obtain ⟨k, v⟩ := p
      cases es with
      | nil => cases hr
      | cons e es =>
        unfold Reads at hr
        simp only [List.map_cons, List.cons.injEq, Prod.mk.injEq] at hr
        obtain ⟨⟨h1, h2⟩, h3⟩ := hr
        unfold Instr.findAsking mfind
        rw [h1]
        by_cases hk : a = k
        · simp [Sem.run_bind, run_equal_pair, hk, h2, Result.andThen]
        · simp only [Sem.run_bind, run_equal_pair, hk, decide_false, Result.andThen, Bool.false_eq_true, if_false]
          exact ih es (i + 1) w h3
  refine ⟨run_checkKey_pair, ?_, ?_⟩
  · intro β encV a es kv w hr
    unfold Instr.findKey
    simp only [Sem.run_bind, run_underlying Try.underlying93, Result.andThen]
    cases es with
    | nil =>
      cases kv with
      | nil => rfl
      | cons p kv => cases hr
    | cons e es =>
      have : Instr.findNow (TypeDesc.array 2 3) (encPair a) (e :: es) 0 = none := by
        unfold Instr.findNow encPair
        simp [Instr.sameNow]
      rw [this]
      exact hask encV a kv (e :: es) 0 w hr
  · intro a
    simp [Instr.sameBits, encPair]

/-- Pairs that are met. -/
def metOf (l : List (Nat × Nat)) : List ((Nat × Nat) × Bool) := l.map (·, true)
theorem put_met {y : Nat × Nat} : ∀ {l : List (Nat × Nat)}, y ∉ l → mput y true (metOf l) = metOf (l ++ [y])
  | [], _ => rfl
  | x :: l, h => by
    simp only [List.mem_cons, not_or] at h
    show (if y = x then (y, true) :: metOf l else (x, true) :: mput y true (metOf l)) = _
    rw [if_neg h.1, put_met h.2]
    rfl
end Go.Proofs.Ytdckpjagmbdkgaa
