/- Package cover: List: what its loops keep. -/
import Derived.Test.YtfdklmpkienfhaaGreatK20
import Derived.Test.YtfdklmpkienfhaaGreatK14
import Derived.Test.YtfdklmpkienfhaaGreatWlk
namespace Go.Proofs.YtfdklmpkienfhaaGreat
set_option linter.unusedSimpArgs false
set_option linter.unusedVariables false
open Go.RowKit
open Go.Op (bytesLess)

/-- v is a slice of the numbers l in blocks of C. -/
def RSC (C : Nat → Prop) (w : World) (v : Value) (l : List Int) : Prop :=
  ∃ (a : Option Addr) (cap : Nat), v = .slice a l.length cap ∧ l.length ≤ cap ∧
    ∀ (k : Nat), k < l.length → ∃ g off, a = some ⟨g, off, none⟩ ∧ C g ∧ w.cell? ⟨g, off + k, none⟩ = some (.int .i64 (l.getD k 0))
theorem RSC.to {C : Nat → Prop} {w w' : World} {v : Value} {l : List Int} (h : RSC C w v l) {C' : Nat → Prop} (hc : ∀ g, C g → C' g ∧ w'.heap[g]? = w.heap[g]?) : RSC C' w' v l := by
  obtain ⟨a, cap, h1, h2, h3⟩ := h
  refine ⟨a, cap, h1, h2, fun k hk => ?_⟩
  obtain ⟨g, off, h4, h5, h6⟩ := h3 k hk
  exact ⟨g, off, h4, (hc g h5).1, (World.cell?_of_block (w := w) (a := ⟨g, off + k, none⟩) (hc g h5).2).trans h6⟩
theorem RSC.rs {C : Nat → Prop} {w : World} {v : Value} {l : List Int} (h : RSC C w v l) {N : Nat} (hc : ∀ g, C g → g < N) : RS N w v l := by
  obtain ⟨a, cap, h1, h2, h3⟩ := h
  refine ⟨a, cap, h1, h2, fun k hk => ?_⟩
  obtain ⟨g, off, h4, h5, h6⟩ := h3 k hk
  exact ⟨g, off, h4, hc g h5, h6⟩
theorem RS.fresh {N M : Nat} {w : World} {v : Value} {l : List Int} (h : RS N w v l) (ho : ∀ b, v.ownBlock = some b → M ≤ b) : RSC (fun g => M ≤ g ∧ g < N) w v l := by
  obtain ⟨a, cap, h1, h2, h3⟩ := h
  refine ⟨a, cap, h1, h2, fun k hk => ?_⟩
  obtain ⟨g, off, h4, h5, h6⟩ := h3 k hk
  refine ⟨g, off, h4, ⟨ho g ?_, h5⟩, h6⟩
  rw [h1, h4]
  simp [Value.ownBlock]

/-- The least of the canonical actions from the first i points. -/
def leastA (A : Nat → List Int) : Nat → (Nat → List Int)
  | 0 => canA A 0
  | i + 1 => if bytesLess (codeL (canA A i)) (codeL (leastA A i)) then canA A i else leastA A i
theorem leastA_is (A : Nat → List Int) : ∀ i, leastA A i = canA A 0 ∨ ∃ p, p < i ∧ leastA A i = canA A p
  | 0 => .inl rfl
  | i + 1 => by
    unfold leastA
    split
    · exact .inr ⟨i, by omega, rfl⟩
    · rcases leastA_is A i with h | ⟨p, hp, h⟩
      · exact .inl h
      · exact .inr ⟨p, by omega, h⟩
theorem leastA_small {A : Nat → List Int} (hs : Shaped A) {i : Nat} (hi : i ≤ (A 0).length) :
    0 < (leastA A i 0).length ∧ (∀ x, x < 3 → (leastA A i x).length ≤ 1000) ∧ ∀ x, x < 3 → ∀ y ∈ leastA A i x, 0 ≤ y ∧ y < 256 := by
  rcases leastA_is A i with h | ⟨p, hp, h⟩
  · rw [h]; exact numA_small hs hs.1.1 hs.1.2.1
  · rw [h]; exact numA_small hs (by omega) hs.1.2.1

theorem bytesLess_irrefl : ∀ x : List UInt8, bytesLess x x = false
  | [] => rfl
  | a :: x => by simp [bytesLess, bytesLess_irrefl x]
theorem bytesLess_trans : ∀ {x y z : List UInt8}, bytesLess x y = true → bytesLess y z = true → bytesLess x z = true
  | _, [], _, h, _ => by cases ‹List UInt8› <;> simp [bytesLess] at h
  | _, _ :: _, [], _, h => by simp [bytesLess] at h
  | [], _ :: _, _ :: _, _, _ => rfl
  | a :: x, b :: y, c :: z, h1, h2 => by
    simp only [bytesLess, Bool.or_eq_true, Bool.and_eq_true, decide_eq_true_eq, beq_iff_eq] at h1 h2 ⊢
    rcases h1 with h1 | ⟨rfl, h1⟩
    · rcases h2 with h2 | ⟨rfl, h2⟩
      · exact .inl (UInt8.lt_trans h1 h2)
      · exact .inl h1
    · rcases h2 with h2 | ⟨rfl, h2⟩
      · exact .inl h2
      · exact .inr ⟨rfl, bytesLess_trans h1 h2⟩
theorem bytesLess_total : ∀ {x y : List UInt8}, x ≠ y → bytesLess x y = true ∨ bytesLess y x = true
  | [], [], h => absurd rfl h
  | [], _ :: _, _ => .inl rfl
  | _ :: _, [], _ => .inr rfl
  | a :: x, b :: y, h => by
    simp only [bytesLess, Bool.or_eq_true, Bool.and_eq_true, decide_eq_true_eq, beq_iff_eq]
    by_cases hab : a = b
    · subst hab
      rcases bytesLess_total (x := x) (y := y) (fun e => h (by rw [e])) with h1 | h1
      · exact .inl (.inr ⟨rfl, h1⟩)
      · exact .inr (.inr ⟨rfl, h1⟩)
    · have hn : a.toNat ≠ b.toNat := fun e => hab (UInt8.toNat_inj.1 e)
      rcases Nat.lt_or_gt_of_ne hn with h1 | h1
      · exact .inl (.inl (UInt8.lt_iff_toNat_lt.2 h1))
      · exact .inr (.inl (UInt8.lt_iff_toNat_lt.2 h1))

theorem mput_keys {α β : Type} [DecidableEq α] (a : α) (b : β) : ∀ l : List (α × β), (mput a b l).map (·.1) = if a ∈ l.map (·.1) then l.map (·.1) else l.map (·.1) ++ [a]
  | [] => rfl
  | (k, v) :: r => by
    unfold mput
    by_cases h : a = k
    · subst h; simp
    · rw [if_neg h, List.map_cons, mput_keys a b r, List.map_cons]
      simp only [List.mem_cons, h, false_or]
      split <;> rfl
theorem mput_mem {α β : Type} [DecidableEq α] {a : α} {b : β} : ∀ {l : List (α × β)} {p : α × β}, p ∈ mput a b l → p = (a, b) ∨ p ∈ l
  | [], p, h => .inl (by simpa [mput] using h)
  | (k, v) :: r, p, h => by
    unfold mput at h
    by_cases hk : a = k
    · rw [if_pos hk] at h
      rcases List.mem_cons.1 h with h | h
      · exact .inl h
      · exact .inr (List.mem_cons_of_mem _ h)
    · rw [if_neg hk] at h
      rcases List.mem_cons.1 h with h | h
      · exact .inr (by rw [h]; exact List.mem_cons_self)
      · rcases mput_mem h with h | h
        · exact .inl h
        · exact .inr (List.mem_cons_of_mem _ h)

/-- The codes behind i actions. -/
noncomputable def lstK (o : Hy.Ord) (n i : Nat) : List (List UInt8) := ((actsL o n).take i).foldl (fun ks A => if codeL (leastA A n) ∈ ks then ks else ks ++ [codeL (leastA A n)]) []
theorem lstK_succ {o : Hy.Ord} {n i : Nat} {A : Nat → List Int} (h : (actsL o n)[i]? = some A) : lstK o n (i + 1) = if codeL (leastA A n) ∈ lstK o n i then lstK o n i else lstK o n i ++ [codeL (leastA A n)] := by
  unfold lstK
  rw [List.take_add_one, h, List.foldl_append]
  rfl

/-- An entry of the map: the code of an action, and the action. -/
def EntryOk (o : Hy.Ord) (n : Nat) (C : Nat → Prop) (W : World) (p : List UInt8 × Value) : Prop :=
  ∃ V A, p.2 = actV V ∧ (∃ A0, A0 ∈ actsL o n ∧ Shaped A0 ∧ (A0 0).length = n ∧ A = leastA A0 n) ∧ codeL A = p.1 ∧ ∀ x, x < 3 → RSC C W (V x) (A x)
theorem EntryOk.to {o : Hy.Ord} {n : Nat} {C C' : Nat → Prop} {W W' : World} {p : List UInt8 × Value} (h : EntryOk o n C W p) (hc : ∀ g, C g → C' g ∧ W'.heap[g]? = W.heap[g]?) : EntryOk o n C' W' p := by
  obtain ⟨V, A, h1, h2, h3, h4⟩ := h
  exact ⟨V, A, h1, h2, h3, fun x hx => (h4 x hx).to hc⟩

/-- What holds ahead of round i. -/
structure LstI (o : Hy.Ord) (n mv mb base : Nat) (i : Nat) (C : Nat → Prop) (W : World) : Prop where
  cv : C mv
  cm : C mb
  ne : mv ≠ mb
  box : W.heap[mv]? = some (.cells #[.map (some mb)] 207)
  mp : ∃ kv : List (List UInt8 × Value), MapAt W str (fun v : Value => v) mb kv ∧ kv.map (·.1) = lstK o n i ∧ ∀ p ∈ kv, EntryOk o n (fun k => C k ∧ k ≠ mv ∧ k ≠ mb) W p
  low : ∀ k, C k → base ≤ k
theorem LstI.stable {o : Hy.Ord} {n mv mb base : Nat} {Own : Nat → Prop} : Stable Own (LstI o n mv mb base) := by
  rintro i C W W' ⟨h1, h2, h3, h4, ⟨kv, h5, h6, h7⟩, h8⟩ hs hsz
  exact ⟨h1, h2, h3, (hs mv (.inl h1)).trans h4, ⟨kv, h5.of_heap (hs mb (.inl h2)), h6, fun p hp => (h7 p hp).to (fun g hg => ⟨hg, hs g (.inl hg.1)⟩)⟩, h8⟩
end Go.Proofs.YtfdklmpkienfhaaGreat
