/- The specification of layer 3: letters; its graph in memory. -/
import Derived.Test.YtfdklmpkienfhaaGreatInts
import Derived.Test.YtfdklmpkienfhaaGreatNf
import Derived.Deep.RegionWith
import Derived.Deep.RegionHeld3
import Derived.Deep.DeepCutAuto
import Derived.Deep.DeepMust
namespace Go.Proofs.YtfdklmpkienfhaaGreat
set_option linter.unusedSimpArgs false
set_option linter.unusedVariables false
open Go.RowKit

set_option maxRecDepth 100000 in
set_option maxHeartbeats 1000000 in
theorem r03_letter (i : Nat) (hi : i < 256) (w : World) :
    Calls Tryz.prog 167 #[.int .i64 i] w fun e w' => e = .returned (str (Hy.letter i)) ∧ w' = w.alloc (.cells #[.int .u8 i] 5) := by
  have kl := run_letter (w.alloc (.cells #[.int .u8 i] 5)) w.heap.size i (by simp)
  unfold str at *
  go_enter Tryz.func167, Tryz.ntmps167
  go_wp2_with fail
  go_ret
  exact ⟨rfl, rfl⟩

set_option maxRecDepth 100000 in
set_option maxHeartbeats 1000000 in
theorem r03_other (a b n : Nat) (hn : n ≤ 100) (w : World) :
    Calls Tryz.prog 168 #[.int .i64 a, .int .i64 b, .int .i64 n] w fun e w' => e = .returned (.int .i64 (if n % 2 = 0 then a else b : Nat)) ∧ w = w' := by
  go_enter Tryz.func168, Tryz.ntmps168
  by_cases h : n % 2 = 0
  · have h1 : ((n : Int) % 2 == 0) = true := by rw [beq_iff_eq]; omega
    rw [if_pos h]
    clear h
    go_wp2_with fail
    go_ret
    exact ⟨rfl, rfl⟩
  · have h1 : ((n : Int) % 2 == 0) = false := by rw [beq_eq_false_iff_ne]; omega
    rw [if_neg h]
    clear h
    go_wp2_with fail
    go_ret
    exact ⟨rfl, rfl⟩

end Go.Proofs.YtfdklmpkienfhaaGreat

/- The graph of the specification of layer 3 in memory. -/
namespace Go.Proofs.YtfdklmpkienfhaaGreat
set_option linter.unusedSimpArgs false
set_option linter.unusedVariables false
open Go.RowKit

def ix (x : Option Nat) : Value := match x with | none => .int .i64 (-1) | some j => .int .i64 (j : Nat)
def r03cells (n : Hy.Node) : List Value := [.int .i64 n.word.length, ix (n.to 0), ix (n.to 1), ix (n.to 2), .bool (n.down 0), .bool (n.down 1), .bool (n.down 2), str n.word]
def flat (G : List Hy.Node) : List Value := G.flatMap r03cells

theorem flat_get : ∀ {G : List Hy.Node} {i : Nat} {n : Hy.Node} {j : Nat}, G[i]? = some n → j < 8 → (flat G)[i * 8 + j]? = (r03cells n)[j]?
  | [], _, _, _, h, _ => by simp at h
  | m :: G, 0, n, j, h, hj => by
    cases h
    show (r03cells m ++ flat G)[0 * 8 + j]? = _
    rw [List.getElem?_append_left (by show _ < 8; omega), Nat.zero_mul, Nat.zero_add]
  | m :: G, i + 1, n, j, h, hj => by
    show (r03cells m ++ flat G)[(i + 1) * 8 + j]? = _
    rw [List.getElem?_append_right (by show 8 ≤ _; omega)]
    have := flat_get (G := G) (i := i) (n := n) (j := j) (by simpa using h) hj
    rw [← this]
    congr 1
    show (i + 1) * 8 + j - 8 = _
    omega

theorem flat_length (G : List Hy.Node) : (flat G).length = G.length * 8 := by
  induction G with
  | nil => rfl
  | cons m G ih =>
    show (r03cells m ++ flat G).length = _
    rw [List.length_append, ih]
    show 8 + _ = (G.length + 1) * 8
    omega

theorem flat_append (G : List Hy.Node) (n : Hy.Node) : flat (G ++ [n]) = flat G ++ r03cells n := by
  unfold flat; rw [List.flatMap_append]; simp

theorem flat_set : ∀ {G : List Hy.Node} {i : Nat} {n n' : Hy.Node} {j : Nat} {u : Value}, G[i]? = some n → j < 8 → r03cells n' = (r03cells n).set j u → flat (G.set i n') = (flat G).set (i * 8 + j) u
  | [], _, _, _, _, _, h, _, _ => by simp at h
  | m :: G, 0, n, n', j, u, h, hj, hc => by
    cases h
    show r03cells n' ++ flat G = (r03cells m ++ flat G).set (0 * 8 + j) u
    rw [Nat.zero_mul, Nat.zero_add, List.set_append_left _ _ (by show _ < 8; omega), hc]
  | m :: G, i + 1, n, n', j, u, h, hj, hc => by
    show r03cells m ++ flat (G.set i n') = (r03cells m ++ flat G).set ((i + 1) * 8 + j) u
    rw [List.set_append_right _ _ (by show 8 ≤ _; omega), flat_set (G := G) (i := i) (n := n) (by simpa using h) hj hc]
    congr 2
    show _ = (i + 1) * 8 + j - 8
    omega

theorem cells_setTo {n : Hy.Node} {s j : Nat} (hs : s < 3) : r03cells (Hy.setTo s j n) = (r03cells n).set (1 + s) (.int .i64 j) := by
  obtain rfl | rfl | rfl : s = 0 ∨ s = 1 ∨ s = 2 := by omega
  all_goals rfl
theorem cells_setDown {n : Hy.Node} {s : Nat} (hs : s < 3) : r03cells (Hy.setDown s n) = (r03cells n).set (4 + s) (.bool true) := by
  obtain rfl | rfl | rfl : s = 0 ∨ s = 1 ∨ s = 2 := by omega
  all_goals rfl
theorem cells_setWord {n : Hy.Node} {l : List UInt8} (hl : l.length = n.word.length) : r03cells (Hy.setWord l n) = (r03cells n).set 7 (str l) := by
  show [Value.int .i64 l.length, _, _, _, _, _, _, _] = _
  rw [hl]
  rfl

/-- The graph in memory. -/
structure RG (w : World) (o : Hy.Ord) (B : Nat → Prop) (gb rb : Nat) (v : Value) (G : List Hy.Node) : Prop where
  graph : w.heap[gb]? = some (.cells #[.int .i64 o.m01, .int .i64 o.m12, .int .i64 o.m02, v] 197 (0, 0))
  row : QRow w rb 8 v G.length (flat G)
  ne : gb ≠ rb
  lo : B gb ∧ B rb
  closed : ∀ (i : Nat) (n : Hy.Node) (s j : Nat), G[i]? = some n → n.to s = some j → j < G.length

theorem RG.drew {w : World} {o : Hy.Ord} {B : Nat → Prop} {gb rb : Nat} {v : Value} {G : List Hy.Node} (h : RG w o B gb rb v G) : RG w.drew o B gb rb v G :=
  ⟨h.graph, h.row.of_heap rfl (Nat.le_refl _), h.ne, h.lo, h.closed⟩

theorem RG.heap {w w' : World} {o : Hy.Ord} {B : Nat → Prop} {gb rb : Nat} {v : Value} {G : List Hy.Node} (h : RG w o B gb rb v G) (hb : Below w.heap.size w w') : RG w' o B gb rb v G := by
  have h1 : gb < w.heap.size := (Array.getElem?_eq_some_iff.1 h.graph).1
  have h2 : rb < w.heap.size := by obtain ⟨_, _, _, _, _, _, _, _, h7⟩ := h.row; exact h7
  exact ⟨(hb.block gb h1).trans h.graph, h.row.of_heap (hb.block rb h2) hb.size, h.ne, h.lo, h.closed⟩

def R03Post (o : Hy.Ord) (B : Nat → Prop) (gb : Nat) (G G' : List Hy.Node) (y : Nat) (w : World) (e : Ending) (w' : World) : Prop :=
  ∃ rb' v', e = .returned (.int .i64 y) ∧ RG w' o B gb rb' v' G' ∧ Only B w w' ∧ G.length ≤ G'.length ∧ y < G'.length

theorem geq_ix (y : Nat) : decide ((0 : Int) ≤ (y : Int)) = true := by rw [decide_eq_true_iff]; omega

/-- The cells of a node. -/
structure NodeAt (w : World) (rb a : Nat) (n : Hy.Node) : Prop where
  nlen : w.cell? ⟨rb, a, none⟩ = some (.int .i64 n.word.length)
  nto : ∀ s, s < 3 → w.cell? ⟨rb, a + 1 + s, none⟩ = some (ix (n.to s))
  ndown : ∀ s, s < 3 → w.cell? ⟨rb, a + 4 + s, none⟩ = some (.bool (n.down s))
  nword : w.cell? ⟨rb, a + 7, none⟩ = some (str n.word)
  nfree : ∀ j, j < 8 → w.frozen? ⟨rb, a + j, none⟩ = false

theorem RG.opened {w : World} {o : Hy.Ord} {B : Nat → Prop} {gb rb : Nat} {v : Value} {G : List Hy.Node} (h : RG w o B gb rb v G) : ∃ off cap, v = .slice (some ⟨rb, off, none⟩) G.length cap ∧ w.cell? ⟨gb, 3, none⟩ = some (.slice (some ⟨rb, off, none⟩) G.length cap) ∧
    (∀ i n, G[i]? = some n → NodeAt w rb (off + i * 8) n) ∧ gb ≠ rb ∧ gb < w.heap.size ∧ rb < w.heap.size := by
  have hg := cell_of_heap (k := 3) h.graph
  have hgl : gb < w.heap.size := (Array.getElem?_eq_some_iff.1 h.graph).1
  obtain ⟨off, cap, hv, h2, h3, h4, h5, h6, h7⟩ := h.row
  refine ⟨off, cap, hv, ?_, fun i n hi => ?_, h.ne, hgl, h7⟩
  · rw [hg, hv]; rfl
  · have key : ∀ j, j < 8 → w.cell? ⟨rb, off + (i * 8 + j), none⟩ = (r03cells n)[j]? := fun j hj => by
      have := flat_get hi hj
      have hl : j < (r03cells n).length := hj
      rw [List.getElem?_eq_getElem hl] at this ⊢
      exact h5 _ _ this
    have hil : i < G.length := (List.getElem?_eq_some_iff.1 hi).1
    refine ⟨?_, fun s hs => ?_, fun s hs => ?_, ?_, fun j hj => ?_⟩
    · have := key 0 (by omega)
      rw [Nat.add_zero] at this; exact this
    · rw [show off + i * 8 + 1 + s = off + (i * 8 + (1 + s)) by omega, key _ (by omega)]
      obtain rfl | rfl | rfl : s = 0 ∨ s = 1 ∨ s = 2 := by omega
      all_goals rfl
    · rw [show off + i * 8 + 4 + s = off + (i * 8 + (4 + s)) by omega, key _ (by omega)]
      obtain rfl | rfl | rfl : s = 0 ∨ s = 1 ∨ s = 2 := by omega
      all_goals rfl
    · rw [show off + i * 8 + 7 = off + (i * 8 + 7) by omega, key 7 (by omega)]; rfl
    · rw [show off + i * 8 + j = off + (i * 8 + j) by omega]
      exact (h6 _ (by omega)).2

/-- A cell of a node is written. -/
theorem RG.put {w : World} {o : Hy.Ord} {B : Nat → Prop} {gb rb off cap : Nat} {G : List Hy.Node} (h : RG w o B gb rb (.slice (some ⟨rb, off, none⟩) G.length cap) G) {i : Nat} {n n' : Hy.Node} (hi : G[i]? = some n) {j : Nat} (hj : j < 8) {u : Value}
    (hn : r03cells n' = (r03cells n).set j u) (hc : ∀ s k, n'.to s = some k → k < G.length) : RG (w.setCell ⟨rb, off + i * 8 + j, none⟩ u) o B gb rb (.slice (some ⟨rb, off, none⟩) G.length cap) (G.set i n') := by
  have hil : i < G.length := (List.getElem?_eq_some_iff.1 hi).1
  refine ⟨?_, ?_, h.ne, h.lo, fun a m s k ha hk => ?_⟩
  · have : (w.setCell ⟨rb, off + i * 8 + j, none⟩ u).heap[gb]? = w.heap[gb]? := Below.heap_setCell _ _ _ _ h.ne
    rw [this]; exact h.graph
  · rw [List.length_set, show off + i * 8 + j = off + (i * 8 + j) by omega, flat_set hi hj hn]
    exact h.row.set rfl (by rw [flat_length]; omega) u
  · rw [List.length_set]
    rw [List.getElem?_set] at ha
    by_cases hia : i = a
    · subst hia
      rw [if_pos rfl, if_pos hil] at ha
      cases ha
      exact hc s k hk
    · rw [if_neg hia] at ha
      exact h.closed a m s k ha hk

set_option maxRecDepth 100000 in
set_option maxHeartbeats 1000000 in
theorem r03_step_known {w : World} {o : Hy.Ord} {B : Nat → Prop} {gb rb : Nat} {v : Value} {G : List Hy.Node} (h : RG w o B gb rb v G) {x s y : Nat} (hs : s < 3) {n : Hy.Node} (hx : G[x]? = some n) (hy : n.to s = some y) :
    Calls Tryz.prog 148 #[.pointer (some ⟨gb, 0, none⟩), .int .i64 x, .int .i64 s] w (R03Post o B gb G G y w) := by
  have hP : R03Post o B gb G G y w (.returned (.int .i64 y)) w := ⟨rb, v, rfl, h, Only.refl _ _, Nat.le_refl _, h.closed x n s y hx hy⟩
  have hxl : x < G.length := (List.getElem?_eq_some_iff.1 hx).1
  obtain ⟨off, cap, rfl, hg, hnode, _⟩ := h.opened
  have hc := (hnode x n hx).nto s hs
  rw [hy] at hc
  unfold ix at hc
  simp only at hc
  have HP := Lib.hid hP; clear hP
  have HX := Lib.hid hx; clear hx
  have HY := Lib.hid hy; clear hy
  clear hnode h
  go_enter Tryz.func148, Tryz.ntmps148
  go_wp2_with fail
  go_ret
  exact HP.out
end Go.Proofs.YtfdklmpkienfhaaGreat
