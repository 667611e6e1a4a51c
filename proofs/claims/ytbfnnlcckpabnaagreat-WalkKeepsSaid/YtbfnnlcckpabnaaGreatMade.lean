/- Plain Lean: walls and things told by other words, one after the other. -/
import Derived.Test.YtbfnnlcckpabnaaGreatLoads
namespace Go.Proofs.YtbfnnlcckpabnaaGreat
set_option linter.unusedSimpArgs false
set_option linter.unusedVariables false
open Go.RowKit
open Hy (Lets IsNF Eqv Le)

theorem fine_nf {o : Hy.Ord} (F : Hy.Fine o) {t : List UInt8} (h1 : Hy.wordErr t = 0) (h2 : Hy.norm o 1000 t = some t) : IsNF o t t := by
  have hl := (Hy.wordErr_letters h1).2
  obtain ⟨n, e1, e2⟩ := Hy.norm_ok F (fuel := 1000) (lets_of_err h1) (by omega) (by omega)
  rw [h2] at e1
  cases e1
  exact e2

/-- A letter there and back. -/
def backs (x : Nat) (u : List UInt8) : List UInt8 := if u.length + 2 ≤ 60 then u ++ (Hy.letter (x % 3) ++ Hy.letter (x % 3)) else u
/-- A word for the tile of a wall, or for the tile on its other side. -/
def spelled (x m : Nat) (t : List UInt8) : List UInt8 := backs x (if x % 2 = 1 ∧ t.length < 60 then t ++ Hy.letter m else t)

theorem backs_ok {o : Hy.Ord} (x : Nat) {u : List UInt8} (hu : Lets u) (hl : u.length ≤ 60) : Eqv o (backs x u) u ∧ Lets (backs x u) ∧ (backs x u).length ≤ 60 := by
  unfold backs
  split
  · refine ⟨?_, Lets.app.2 ⟨hu, Lets.app.2 ⟨Hy.lets_letter (by omega), Hy.lets_letter (by omega)⟩⟩, by simp [Hy.letter]; omega⟩
    rw [← List.append_assoc]
    exact Eqv.pair (by omega) u
  · exact ⟨Eqv.refl _, hu, hl⟩

theorem spelled_ok {o : Hy.Ord} (x : Nat) {m : Nat} (hm : m < 3) {t : List UInt8} (ht : Lets t) (hl : t.length ≤ 60) : (Eqv o (spelled x m t) t ∨ Eqv o (spelled x m t) (t ++ Hy.letter m)) ∧ Lets (spelled x m t) ∧ (spelled x m t).length ≤ 60 := by
  unfold spelled
  split
  · rename_i h
    obtain ⟨a, b, c⟩ := backs_ok (o := o) x (u := t ++ Hy.letter m) (Lets.app.2 ⟨ht, Hy.lets_letter hm⟩) (by simp [Hy.letter]; omega)
    exact ⟨.inr a, b, c⟩
  · obtain ⟨a, b, c⟩ := backs_ok (o := o) x ht hl
    exact ⟨.inl a, b, c⟩

theorem nf7_eqv {o : Hy.Ord} (F : Hy.Fine o) {u v : List UInt8} (hu : Lets u) (hul : u.length ≤ 1000) (e : Eqv o u v) {n : List UInt8} (h : IsNF o v n) : nf7 o u = n := nf7_eq F hu hul (h.congr e.symm)

/-- A wall of an image, told by another word, is the same wall. -/
theorem spelled_key {o : Hy.Ord} (F : Hy.Fine o) {p : List UInt8 × Int} (hf : FineWall o p) (x : Nat) : wallErr (spelled x p.2.toNat p.1) p.2 = 0 ∧ wallKey o (spelled x p.2.toNat p.1) p.2 = p := by
  obtain ⟨t, mm⟩ := p
  obtain ⟨h1, h2, m, h3, h4, h5⟩ := hf
  simp only at h1 h2 h3 h5 ⊢
  subst h3
  have hm : m < 3 := by omega
  rw [Int.toNat_natCast]
  have hl := (Hy.wordErr_letters h1).2
  have hL := lets_of_err h1
  have ht := fine_nf F h1 h2
  obtain ⟨a, b, c⟩ := spelled_ok (o := o) x hm hL hl
  have hN := nf7_norm F (x := t ++ Hy.letter m) (Lets.app.2 ⟨hL, Hy.lets_letter hm⟩) (by simp [Hy.letter]; omega)
  have hup : t.length < (nf7 o (t ++ Hy.letter m)).length := by
    unfold upward at h5
    rw [hN.1] at h5
    simpa using h5
  constructor
  · unfold wallErr
    rw [wordErr_lets b c]
    simp
    omega
  · have hv : Lets (spelled x m t ++ Hy.letter m) := Lets.app.2 ⟨b, Hy.lets_letter hm⟩
    have hvl : (spelled x m t ++ Hy.letter m).length ≤ 1000 := by simp [Hy.letter]; omega
    unfold wallKey Hy.nearOf
    rw [Int.toNat_natCast]
    rcases a with a | a
    · rw [nf7_eqv F b (by omega) a ht, nf7_eqv F hv hvl (a.right _) hN.2, if_neg (by omega)]
    · have e2 : Eqv o (spelled x m t ++ Hy.letter m) t := (a.right _).trans (Eqv.pair hm t)
      rw [nf7_eqv F b (by omega) a hN.2, nf7_eqv F hv hvl e2 ht, if_pos hup]

/-- The tile of a thing, told by another word. -/
theorem backs_key {o : Hy.Ord} (F : Hy.Fine o) {p : List UInt8 × List UInt8} (hf : FineThing o p) (x : Nat) : Hy.wordErr (backs x p.1) = 0 ∧ nf7 o (backs x p.1) = p.1 := by
  obtain ⟨h1, h2, _, _⟩ := hf
  have hl := (Hy.wordErr_letters h1).2
  have hL := lets_of_err h1
  obtain ⟨a, b, c⟩ := backs_ok (o := o) x hL hl
  exact ⟨wordErr_lets b c, nf7_eqv F b (by omega) a (fine_nf F h1 h2)⟩

/-- One wall more. -/
theorem wall_more {o : Hy.Ord} (F : Hy.Fine o) {p : List UInt8 × Int} (hf : FineWall o p) (x : Nat) {P : WallList} (hn : p ∉ P) (hl : P.length < 100) :
    wallA o (P.map fun e => (e, true)) (spelled x p.2.toNat p.1) p.2 true = (0, (P ++ [p]).map fun e => (e, true)) := by
  obtain ⟨h1, h2⟩ := spelled_key F hf x
  unfold wallA putWall
  rw [h1, if_neg (by simp), h2, if_neg (by simp), if_neg (by simp; omega), mput_new (fun q hq => ?_)]
  · simp
  · obtain ⟨e, he, rfl⟩ := List.mem_map.1 hq
    rintro rfl
    exact hn he

/-- One thing more. -/
theorem thing_more {o : Hy.Ord} (F : Hy.Fine o) {p : List UInt8 × List UInt8} (hf : FineThing o p) (x : Nat) {P : ThingList} (hn : ∀ q ∈ P, q.1 ≠ p.1) (hl : P.length < 200) :
    thingA o P (backs x p.1) p.2 = (0, P ++ [p]) := by
  obtain ⟨h1, h2⟩ := backs_key F hf x
  obtain ⟨_, _, h3, h4⟩ := hf
  unfold thingA putThing
  rw [h1, if_neg (by simp), h2, h4, if_neg (by simp), if_neg h3, if_neg (by simp; omega), mput_new hn]

/-- What has been put after k steps, from the front or from the back. -/
def putW (fwd : Bool) (WL : WallList) (TL : ThingList) (k : Nat) : WallList := if fwd = true then WL.take k else WL.reverse.take (k - TL.length)
def putT (fwd : Bool) (WL : WallList) (TL : ThingList) (k : Nat) : ThingList := if fwd = true then TL.take (k - WL.length) else TL.reverse.take k
def atOf (fwd : Bool) (n k : Nat) : Nat := if fwd = true then k else n - 1 - k

theorem take_more {α : Type} {l : List α} {k : Nat} (hk : k < l.length) (hn : l.Nodup) : l.take (k + 1) = l.take k ++ [l[k]] ∧ l[k] ∉ l.take k := by
  have h1 := List.take_succ_eq_append_getElem hk
  refine ⟨h1, fun h => ?_⟩
  have h2 : (l.take (k + 1)).Pairwise (fun a b => a ≠ b) := List.Pairwise.sublist (List.take_sublist (k + 1) l) hn
  rw [h1] at h2
  exact (List.pairwise_append.1 h2).2.2 _ h _ (by simp) rfl

theorem put_wall {fwd : Bool} {WL : WallList} {TL : ThingList} (hn : WL.Nodup) {k : Nat} (hk : k < WL.length + TL.length) (h : atOf fwd (WL.length + TL.length) k < WL.length) :
    putW fwd WL TL (k + 1) = putW fwd WL TL k ++ [WL[atOf fwd (WL.length + TL.length) k]] ∧ WL[atOf fwd (WL.length + TL.length) k] ∉ putW fwd WL TL k ∧ putT fwd WL TL (k + 1) = putT fwd WL TL k ∧ (putW fwd WL TL k).length < WL.length := by
  unfold putW putT
  cases fwd with
  | true =>
    simp only [atOf, if_true] at h ⊢
    obtain ⟨a, b⟩ := take_more h hn
    refine ⟨a, b, ?_, by simp; omega⟩
    rw [show k + 1 - WL.length = 0 by omega, show k - WL.length = 0 by omega]
  | false =>
    simp only [atOf, Bool.false_eq_true, if_false] at h ⊢
    have hk2 : k - TL.length < WL.reverse.length := by simp; omega
    obtain ⟨a, b⟩ := take_more hk2 ((List.reverse_perm WL).nodup_iff.2 hn)
    have he : WL.reverse[k - TL.length] = WL[WL.length + TL.length - 1 - k] := by
      rw [List.getElem_reverse]
      congr 1
      omega
    rw [he] at a b
    refine ⟨?_, b, ?_, by simp; omega⟩
    · rw [show k + 1 - TL.length = k - TL.length + 1 by omega]; exact a
    · rw [List.take_of_length_le (by simp; omega), List.take_of_length_le (by simp; omega)]

theorem put_thing {fwd : Bool} {WL : WallList} {TL : ThingList} (hn : (TL.map (·.1)).Nodup) {k : Nat} (hk : k < WL.length + TL.length) (h : ¬ atOf fwd (WL.length + TL.length) k < WL.length) (hi : atOf fwd (WL.length + TL.length) k - WL.length < TL.length) :
    putT fwd WL TL (k + 1) = putT fwd WL TL k ++ [TL[atOf fwd (WL.length + TL.length) k - WL.length]] ∧ (∀ q ∈ putT fwd WL TL k, q.1 ≠ (TL[atOf fwd (WL.length + TL.length) k - WL.length]).1) ∧ putW fwd WL TL (k + 1) = putW fwd WL TL k ∧ (putT fwd WL TL k).length < TL.length := by
  have key : ∀ (l : ThingList), (l.map (·.1)).Nodup → ∀ j (hj : j < l.length), l.take (j + 1) = l.take j ++ [l[j]] ∧ ∀ q ∈ l.take j, q.1 ≠ l[j].1 := by
    intro l hl j hj
    refine ⟨List.take_succ_eq_append_getElem hj, fun q hq he => ?_⟩
    have h1 := (take_more (l := l.map (·.1)) (k := j) (by simpa using hj) hl).2
    apply h1
    rw [← List.map_take, List.getElem_map, ← he]
    exact List.mem_map_of_mem hq
  unfold putW putT
  cases fwd with
  | true =>
    simp only [atOf, if_true] at h hi ⊢
    obtain ⟨a, b⟩ := key TL hn _ hi
    refine ⟨?_, b, ?_, by simp; omega⟩
    · rw [show k + 1 - WL.length = k - WL.length + 1 by omega]; exact a
    · rw [List.take_of_length_le (by omega), List.take_of_length_le (by omega)]
  | false =>
    simp only [atOf, Bool.false_eq_true, if_false] at h hi ⊢
    have hk2 : k < TL.reverse.length := by simp; omega
    obtain ⟨a, b⟩ := key TL.reverse (by rw [List.map_reverse]; exact (List.reverse_perm _).nodup_iff.2 hn) k hk2
    have he : TL.reverse[k] = TL[WL.length + TL.length - 1 - k - WL.length] := by
      rw [List.getElem_reverse]
      congr 1
      omega
    rw [he] at a b
    refine ⟨a, b, ?_, by simp; omega⟩
    rw [show k + 1 - TL.length = 0 by omega, show k - TL.length = 0 by omega]

theorem put_all (fwd : Bool) (WL : WallList) (TL : ThingList) : (putW fwd WL TL (WL.length + TL.length)).Perm WL ∧ (putT fwd WL TL (WL.length + TL.length)).Perm TL := by
  unfold putW putT
  cases fwd with
  | true =>
    simp only [if_true]
    rw [List.take_of_length_le (by omega), List.take_of_length_le (by omega)]
    exact ⟨List.Perm.refl _, List.Perm.refl _⟩
  | false =>
    simp only [Bool.false_eq_true, if_false]
    rw [List.take_of_length_le (by simp), List.take_of_length_le (by simp)]
    exact ⟨List.reverse_perm WL, List.reverse_perm TL⟩
end Go.Proofs.YtbfnnlcckpabnaaGreat
