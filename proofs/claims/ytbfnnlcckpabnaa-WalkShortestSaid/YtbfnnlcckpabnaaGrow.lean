/- The graph of tiles of package grow in memory; its functions do what the plain functions of Pure say. -/
import Derived.Test.YtbfnnlcckpabnaaOrd
import Derived.Test.YtbfnnlcckpabnaaPure
namespace Go.Proofs.Ytbfnnlcckpabnaa
set_option linter.unusedSimpArgs false
set_option linter.unusedVariables false
open Go.RowKit

def ptr (bs : Nat → Nat) : Option Nat → Value
  | none => .pointer none
  | some i => .pointer (some ⟨bs i, 0, none⟩)


def nodeCells (bs : Nat → Nat) (n : Hy.Node) : Array Value :=
  #[str n.word, ptr bs (n.to 0), ptr bs (n.to 1), ptr bs (n.to 2), .bool (n.down 0), .bool (n.down 1), .bool (n.down 2)]

def planeCells (o : Hy.Ord) (b : Nat) : Array Value :=
  #[.int .i64 0, .int .i64 o.m01, .int .i64 o.m02, .int .i64 o.m01, .int .i64 0, .int .i64 o.m12, .int .i64 o.m02, .int .i64 o.m12, .int .i64 0, .pointer (some ⟨b, 0, none⟩)]

/-- Only blocks of B may have changed. -/
structure Only (B : Nat → Prop) (w w' : World) : Prop where
  os : w'.os = w.os
  tape : w'.tape = w.tape
  output : w'.output = w.output
  size : w.heap.size ≤ w'.heap.size
  block : ∀ k, ¬ B k → w'.heap[k]? = w.heap[k]?

/-- All new blocks are of B. -/
def Free (B : Nat → Prop) (w : World) : Prop := ∀ k, w.heap.size ≤ k → B k

theorem Free.grow {B : Nat → Prop} {w w' : World} (h : Free B w) (hs : w.heap.size ≤ w'.heap.size) : Free B w' := fun k hk => h k (Nat.le_trans hs hk)

theorem Only.refl (B : Nat → Prop) (w : World) : Only B w w := ⟨rfl, rfl, rfl, Nat.le_refl _, fun _ _ => rfl⟩
theorem Only.trans {B : Nat → Prop} {a b c : World} (h : Only B a b) (k : Only B b c) : Only B a c :=
  ⟨k.os.trans h.os, k.tape.trans h.tape, k.output.trans h.output, Nat.le_trans h.size k.size, fun i hi => (k.block i hi).trans (h.block i hi)⟩
theorem Only.mono {B B' : Nat → Prop} {w w' : World} (h : Only B w w') (hB : ∀ k, B k → B' k) : Only B' w w' := ⟨h.os, h.tape, h.output, h.size, fun k hk => h.block k (fun hb => hk (hB k hb))⟩
theorem Only.drew {B : Nat → Prop} {a w : World} (h : Only B a w) : Only B a w.drew := ⟨h.os, h.tape, h.output, h.size, h.block⟩
theorem Only.drewN {B : Nat → Prop} {a w : World} (h : Only B a w) (n : Nat) : Only B a (w.drewN n) := ⟨h.os, h.tape, h.output, h.size, h.block⟩
theorem Only.alloc {B : Nat → Prop} {a w : World} (h : Only B a w) (hB : Free B a) (o : Obj) : Only B a (w.alloc o) :=
  h.trans ⟨rfl, rfl, rfl, by simp, fun k hk => by
    rcases Nat.lt_or_ge k w.heap.size with hlt | hge
    · exact Below.heap_alloc _ _ _ hlt
    · exact absurd (hB k (Nat.le_trans h.size hge)) hk⟩
theorem Only.setCell {B : Nat → Prop} {a w : World} (h : Only B a w) {p : Addr} (hp : B p.block) (u : Value) : Only B a (w.setCell p u) :=
  h.trans ⟨rfl, rfl, rfl, by simp [World.setCell], fun k hk => Below.heap_setCell _ _ _ _ (fun e => hk (e ▸ hp))⟩
theorem Only.below {B : Nat → Prop} {w w' : World} (h : Only B w w') {N : Nat} (hN : ∀ k, B k → N ≤ k) : Below N w w' :=
  ⟨h.os, h.tape, h.output, h.size, fun k hk => h.block k (fun hb => by have := hN k hb; omega)⟩

structure GRep (w : World) (o : Hy.Ord) (B : Nat → Prop) (pb : Nat) (bs : Nat → Nat) (G : List Hy.Node) : Prop where
  plane : w.heap[pb]? = some (.cells (planeCells o (bs 0)) 144 (0, 0))
  node : ∀ (i : Nat) (n : Hy.Node), G[i]? = some n → w.heap[bs i]? = some (.cells (nodeCells bs n) 148 (0, 0))
  inj : ∀ i j, i < G.length → j < G.length → bs i = bs j → i = j
  ne : ∀ i, i < G.length → bs i ≠ pb
  lo : ∀ i, i < G.length → B (bs i)
  closed : ∀ (i : Nat) (n : Hy.Node) (s j : Nat), G[i]? = some n → n.to s = some j → j < G.length

theorem cell_of_heap {w : World} {b : Nat} {c : Array Value} {t : TypeId} {fr : Nat × Nat} (h : w.heap[b]? = some (.cells c t fr)) (k : Nat) : w.cell? ⟨b, k, none⟩ = c[k]? := by
  unfold World.cell?
  rw [h]
  rfl
theorem free_of_heap {w : World} {b : Nat} {c : Array Value} {t : TypeId} (h : w.heap[b]? = some (.cells c t (0, 0))) (k : Nat) : w.frozen? ⟨b, k, none⟩ = false := by
  unfold World.frozen?
  rw [h]
  simp

theorem GRep.cWord {w : World} {o : Hy.Ord} {B : Nat → Prop} {pb : Nat} {bs : Nat → Nat} {G : List Hy.Node} (h : GRep w o B pb bs G) {i : Nat} {n : Hy.Node} (hi : G[i]? = some n) :
    w.cell? ⟨bs i, 0, none⟩ = some (str n.word) := by rw [cell_of_heap (h.node i n hi)]; rfl
theorem GRep.cTo {w : World} {o : Hy.Ord} {B : Nat → Prop} {pb : Nat} {bs : Nat → Nat} {G : List Hy.Node} (h : GRep w o B pb bs G) {i : Nat} {n : Hy.Node} (hi : G[i]? = some n) {s : Nat} (hs : s < 3) :
    w.cell? ⟨bs i, 1 + s, none⟩ = some (ptr bs (n.to s)) := by
  rw [cell_of_heap (h.node i n hi)]
  obtain rfl | rfl | rfl : s = 0 ∨ s = 1 ∨ s = 2 := by omega
  all_goals rfl
theorem GRep.cDown {w : World} {o : Hy.Ord} {B : Nat → Prop} {pb : Nat} {bs : Nat → Nat} {G : List Hy.Node} (h : GRep w o B pb bs G) {i : Nat} {n : Hy.Node} (hi : G[i]? = some n) {s : Nat} (hs : s < 3) :
    w.cell? ⟨bs i, 4 + s, none⟩ = some (.bool (n.down s)) := by
  rw [cell_of_heap (h.node i n hi)]
  obtain rfl | rfl | rfl : s = 0 ∨ s = 1 ∨ s = 2 := by omega
  all_goals rfl

set_option maxHeartbeats 400000 in
theorem grow_lowest {w : World} {o : Hy.Ord} {B : Nat → Prop} {pb : Nat} {bs : Nat → Nat} {G : List Hy.Node} (h : GRep w o B pb bs G) (k t i j : Nat) (hk : k ≤ 100) (hi : i < 3) (hj : j < 3) (r : Option Nat) (hr : Hy.lowest G k t i j = some r) :
    Calls Try.prog 92 #[.pointer (some ⟨bs t, 0, none⟩), .int .i64 i, .int .i64 j, .int .i64 k] w fun e w' => e = .returned (.tuple #[ptr bs r, .bool r.isSome]) ∧ w = w' := by
  go_enter Try.func92, Try.ntmps92
  go_wp2
  go_loop [0, 1, 2, 11] (fun a b c d => ∃ (m t i j : Nat), m ≤ k ∧ i < 3 ∧ j < 3 ∧ a = .pointer (some ⟨bs t, 0, none⟩) ∧ b = .int .i64 i ∧ c = .int .i64 j ∧ d = .int .i64 ((k - m : Nat) : Int) ∧ Hy.lowest G m t i j = some r) (fun _ _ _ d => k - (intOf d).toNat)
  case atStart => exact ⟨k, t, i, j, Nat.le_refl _, hi, hj, rfl, rfl, rfl, by simp, hr⟩
  case round =>
    obtain ⟨m, t, i, j, hm, hi, hj, rfl, rfl, rfl, rfl, hr⟩ := hrel
    have H := Lib.hid hr; clear hr
    cases m with
    | zero =>
      go_wp2
      go_ret2
      have hr := H.out
      unfold Hy.lowest at hr
      cases hr
      exact ⟨rfl, rfl⟩
    | succ m =>
      have hr := H.out
      unfold Hy.lowest at hr
      cases hg : G[t]? with
      | none => rw [hg] at hr; cases hr
      | some n =>
        rw [hg] at hr
        simp only at hr
        have ct := h.cTo hg hi
        have cd := h.cDown hg hi
        have HG := Lib.hid hg; clear hg
        cases hd : n.down i with
        | false =>
          rw [hd] at cd hr
          have H' := Lib.hid hr; clear hr H
          clear hd
          go_wp2
          go_ret2
          have hr := H'.out
          simp at hr
          subst hr
          exact ⟨rfl, rfl⟩
        | true =>
          rw [hd] at cd hr
          simp only [if_true] at hr
          cases ht : n.to i with
          | none => rw [ht] at hr; cases hr
          | some t' =>
            rw [ht] at hr ct
            unfold ptr at ct
            simp only at hr ct
            have H' := Lib.hid hr; clear hr H
            clear hd ht
            go_wp2
            go_round
            case rel => exact ⟨m, t', j, i, by omega, hj, hi, rfl, rfl, rfl, by go_num, H'.out⟩
            case measure => simp [intOf]; omega

theorem GRep.drew {w : World} {o : Hy.Ord} {B : Nat → Prop} {pb : Nat} {bs : Nat → Nat} {G : List Hy.Node} (h : GRep w o B pb bs G) : GRep w.drew o B pb bs G :=
  ⟨h.plane, h.node, h.inj, h.ne, h.lo, h.closed⟩

theorem length_modify {G : List Hy.Node} {i : Nat} {f : Hy.Node → Hy.Node} : (G.modify i f).length = G.length := by simp

/-- One node's cell is written. -/
theorem GRep.write {w : World} {o : Hy.Ord} {B : Nat → Prop} {pb : Nat} {bs : Nat → Nat} {G : List Hy.Node} (h : GRep w o B pb bs G) {i : Nat} {n : Hy.Node} (hi : G[i]? = some n) (f : Hy.Node → Hy.Node) (k : Nat) (v : Value)
    (hf : nodeCells bs (f n) = (nodeCells bs n).setIfInBounds k v) (hc : ∀ s j, (f n).to s = some j → j < G.length) : GRep (w.setCell ⟨bs i, k, none⟩ v) o B pb bs (G.modify i f) := by
  have hlt : i < G.length := (List.getElem?_eq_some_iff.1 hi).1
  refine ⟨?_, ?_, ?_, ?_, ?_, ?_⟩
  · rw [heap_setCell_other _ _ _ _ (by simpa using (h.ne i hlt).symm)]; exact h.plane
  · intro a m hm
    rw [List.getElem?_modify] at hm
    by_cases e : i = a
    · subst e
      rw [hi] at hm
      simp at hm
      subst hm
      rw [heap_setCell_same _ _ _ _ _ _ (h.node i n hi), hf]
    · simp [e] at hm
      have ha : a < G.length := (List.getElem?_eq_some_iff.1 hm).1
      rw [heap_setCell_other _ _ _ _ (by simp; intro e'; exact e (h.inj i a hlt ha e'.symm))]
      exact h.node a m hm
  · intro a b ha hb; rw [length_modify] at ha hb; exact h.inj a b ha hb
  · intro a ha; rw [length_modify] at ha; exact h.ne a ha
  · intro a ha; rw [length_modify] at ha; exact h.lo a ha
  · intro a m s j hm hj
    rw [length_modify]
    rw [List.getElem?_modify] at hm
    by_cases e : i = a
    · subst e
      rw [hi] at hm
      simp at hm
      subst hm
      exact hc s j hj
    · simp [e] at hm
      exact h.closed a m s j hm hj

theorem GRep.setTo {w : World} {o : Hy.Ord} {B : Nat → Prop} {pb : Nat} {bs : Nat → Nat} {G : List Hy.Node} (h : GRep w o B pb bs G) {i : Nat} {n : Hy.Node} (hi : G[i]? = some n) {s j : Nat} (hs : s < 3) (hj : j < G.length) :
    GRep (w.setCell ⟨bs i, 1 + s, none⟩ (.pointer (some ⟨bs j, 0, none⟩))) o B pb bs (G.modify i (Hy.setTo s j)) := by
  refine h.write hi _ _ _ ?_ ?_
  · obtain rfl | rfl | rfl : s = 0 ∨ s = 1 ∨ s = 2 := by omega
    all_goals simp [nodeCells, Hy.setTo, ptr]
  · intro a b hb
    simp only [Hy.setTo] at hb
    split at hb
    · cases hb; exact hj
    · exact h.closed i n a b hi hb

theorem GRep.setDown {w : World} {o : Hy.Ord} {B : Nat → Prop} {pb : Nat} {bs : Nat → Nat} {G : List Hy.Node} (h : GRep w o B pb bs G) {i : Nat} {n : Hy.Node} (hi : G[i]? = some n) {s : Nat} (hs : s < 3) :
    GRep (w.setCell ⟨bs i, 4 + s, none⟩ (.bool true)) o B pb bs (G.modify i (Hy.setDown s)) := by
  refine h.write hi _ _ _ ?_ ?_
  · obtain rfl | rfl | rfl : s = 0 ∨ s = 1 ∨ s = 2 := by omega
    all_goals simp [nodeCells, Hy.setDown]
  · intro a b hb
    exact h.closed i n a b hi hb

theorem GRep.setWord {w : World} {o : Hy.Ord} {B : Nat → Prop} {pb : Nat} {bs : Nat → Nat} {G : List Hy.Node} (h : GRep w o B pb bs G) {i : Nat} {n : Hy.Node} (hi : G[i]? = some n) (l : List UInt8) :
    GRep (w.setCell ⟨bs i, 0, none⟩ (str l)) o B pb bs (G.modify i (Hy.setWord l)) := by
  refine h.write hi _ _ _ ?_ ?_
  · simp [nodeCells, Hy.setWord]
  · intro a b hb
    exact h.closed i n a b hi hb

theorem link_eq (G : List Hy.Node) (i j s : Nat) : Hy.link G i j s = ((G.modify i (Hy.setTo s j)).modify j (Hy.setTo s i)).modify j (Hy.setDown s) := by
  unfold Hy.link
  apply List.ext_getElem?
  intro k
  simp only [List.getElem?_modify]
  by_cases e : j = k
  · simp [e, Function.comp_def]
  · simp [e]

theorem modify_comm (G : List Hy.Node) (i j : Nat) (f g : Hy.Node → Hy.Node) (hij : i ≠ j) : (G.modify i f).modify j g = (G.modify j g).modify i f := by
  apply List.ext_getElem?
  intro k
  simp only [List.getElem?_modify]
  by_cases e : j = k
  · by_cases e' : i = k
    · omega
    · simp [e, e']
  · simp [e]

theorem modify_at {G : List Hy.Node} {i j : Nat} {f : Hy.Node → Hy.Node} {n : Hy.Node} (h : G[j]? = some n) (hij : i ≠ j) : (G.modify i f)[j]? = some n := by
  rw [List.getElem?_modify]; simp [hij, h]
theorem modify_same {G : List Hy.Node} {i : Nat} {f : Hy.Node → Hy.Node} {n : Hy.Node} (h : G[i]? = some n) : (G.modify i f)[i]? = some (f n) := by
  rw [List.getElem?_modify]; simp [h]

theorem GRep.link {w : World} {o : Hy.Ord} {B : Nat → Prop} {pb : Nat} {bs : Nat → Nat} {G : List Hy.Node} (h : GRep w o B pb bs G) {i j s : Nat} (hs : s < 3) {ni nj : Hy.Node} (hi : G[i]? = some ni) (hj : G[j]? = some nj) (hij : i ≠ j) :
    GRep (((w.setCell ⟨bs i, 1 + s, none⟩ (.pointer (some ⟨bs j, 0, none⟩))).setCell ⟨bs j, 1 + s, none⟩ (.pointer (some ⟨bs i, 0, none⟩))).setCell ⟨bs j, 4 + s, none⟩ (.bool true)) o B pb bs (Hy.link G i j s) := by
  rw [link_eq]
  have li := (List.getElem?_eq_some_iff.1 hi).1
  have lj := (List.getElem?_eq_some_iff.1 hj).1
  have h1 := h.setTo hi hs lj
  have h2 := h1.setTo (modify_at hj hij) hs (j := i) (by simpa using li)
  exact h2.setDown (modify_same (modify_at hj hij)) hs

theorem GRep.link' {w : World} {o : Hy.Ord} {B : Nat → Prop} {pb : Nat} {bs : Nat → Nat} {G : List Hy.Node} (h : GRep w o B pb bs G) {i j s : Nat} (hs : s < 3) {ni nj : Hy.Node} (hi : G[i]? = some ni) (hj : G[j]? = some nj) (hij : i ≠ j) :
    GRep (((w.setCell ⟨bs j, 1 + s, none⟩ (.pointer (some ⟨bs i, 0, none⟩))).setCell ⟨bs i, 1 + s, none⟩ (.pointer (some ⟨bs j, 0, none⟩))).setCell ⟨bs j, 4 + s, none⟩ (.bool true)) o B pb bs (Hy.link G i j s) := by
  rw [link_eq, modify_comm G i j _ _ hij]
  have li := (List.getElem?_eq_some_iff.1 hi).1
  have lj := (List.getElem?_eq_some_iff.1 hj).1
  have h1 := h.setTo hj hs li
  have h2 := h1.setTo (modify_at hi (Ne.symm hij)) hs (j := j) (by simpa using lj)
  exact h2.setDown (modify_at (modify_same hj) hij) hs

set_option maxHeartbeats 400000 in
theorem grow_link {w : World} {o : Hy.Ord} {B : Nat → Prop} {pb : Nat} {bs : Nat → Nat} {G : List Hy.Node} (h : GRep w o B pb bs G) (i j s : Nat) (hs : s < 3) (ni nj : Hy.Node) (hi : G[i]? = some ni) (hj : G[j]? = some nj) (hij : i ≠ j) :
    Calls Try.prog 91 #[.pointer (some ⟨bs i, 0, none⟩), .pointer (some ⟨bs j, 0, none⟩), .int .i64 s] w fun e w' => e = .returned (.tuple #[]) ∧ GRep w' o B pb bs (Hy.link G i j s) ∧ Only B w w' := by
  have li := (List.getElem?_eq_some_iff.1 hi).1
  have lj := (List.getElem?_eq_some_iff.1 hj).1
  have hne : bs i ≠ bs j := fun e => hij (h.inj i j li lj e)
  have ci := h.cTo hi hs
  have cj := h.cTo hj hs
  have cd := h.cDown hj hs
  have fi := free_of_heap (h.node i ni hi) (1 + s)
  have fj := free_of_heap (h.node j nj hj) (1 + s)
  have fd := free_of_heap (h.node j nj hj) (4 + s)
  have k1 : ∀ x, (w.setCell ⟨bs i, 1 + s, none⟩ x).cell? ⟨bs j, 1 + s, none⟩ = some (ptr bs (nj.to s)) := fun x => (World.cell?_setCell_other _ _ _ _ (by simp [hne])).trans cj
  have k2 : ∀ x, (w.setCell ⟨bs j, 1 + s, none⟩ x).cell? ⟨bs i, 1 + s, none⟩ = some (ptr bs (ni.to s)) := fun x => (World.cell?_setCell_other _ _ _ _ (by simp [Ne.symm hne])).trans ci
  have k3 : ∀ x y, ((w.setCell ⟨bs i, 1 + s, none⟩ x).setCell ⟨bs j, 1 + s, none⟩ y).cell? ⟨bs j, 4 + s, none⟩ = some (.bool (nj.down s)) := fun x y =>
    (World.cell?_setCell_other _ _ _ _ (by simp)).trans ((World.cell?_setCell_other _ _ _ _ (by simp [hne])).trans cd)
  have k4 : ∀ x y, ((w.setCell ⟨bs j, 1 + s, none⟩ x).setCell ⟨bs i, 1 + s, none⟩ y).cell? ⟨bs j, 4 + s, none⟩ = some (.bool (nj.down s)) := fun x y =>
    (World.cell?_setCell_other _ _ _ _ (by simp [hne])).trans ((World.cell?_setCell_other _ _ _ _ (by simp)).trans cd)
  have R1 := h.link hs hi hj hij
  have R2 := h.link' hs hi hj hij
  have B1 := h.lo i li
  have B2 := h.lo j lj
  clear hi hj hne
  go_enter Try.func91, Try.ntmps91
  go_wp2
  go_region
  all_goals go_wp2
  all_goals go_end0
  all_goals exact ⟨rfl, R1.drew, ((((Only.refl _ _).setCell B1 _).setCell B2 _).setCell B2 _).drew⟩
end Go.Proofs.Ytbfnnlcckpabnaa
