import Derived.Test.YtbfnnlcckpabnaaGreatRel
import Derived.Test.YtbfnnlcckpabnaaGreatQ3
import Derived.Test.YtbfnnlcckpabnaaGreatQ4
import Derived.Test.YtbfnnlcckpabnaaGreatQ9
import Derived.Test.YtbfnnlcckpabnaaGreatWk7
import Derived.Test.YtbfnnlcckpabnaaGreatIw
import Derived.Test.YtbfnnlcckpabnaaGreatNf
import Derived.Deep.RegionHeld3
import Derived.Deep.RegionWith
import Derived.Deep.DeepCutAuto

/- A map of walks and one of the specification, side by side: what is kept of the one when the other is written; each call whole, errors and all. -/
namespace Go.Proofs.YtbfnnlcckpabnaaGreat
set_option linter.unusedSimpArgs false
set_option linter.unusedVariables false
open Go.RowKit
open Hy (Lets IsNF Eqv Le)

theorem cell_of_map {w : World} {b : Nat} {ob : Obj} (h : w.heap[b]? = some ob) (hn : ∀ c t f, ob ≠ .cells c t f) (k : Nat) : w.cell? ⟨b, k, none⟩ = none := by
  simp only [World.cell?, h, Option.bind_eq_bind, Option.bind_some]
  cases ob <;> first | rfl | exact absurd rfl (hn _ _ _)

theorem MRep.ne {w : World} {o : Hy.Ord} {mb wb tb : Nat} {W : Walls} {T : Things} (h : MRep w o mb wb tb W T) : mb ≠ wb ∧ mb ≠ tb := by
  obtain ⟨es, c, h1, _⟩ := h.walls
  obtain ⟨es2, c2, h2, _⟩ := h.things
  have h3 := h.cells
  constructor
  · rintro rfl
    rw [h1] at h3
    cases h3
  · rintro rfl
    rw [h2] at h3
    cases h3

theorem types_ne : (57 : TypeId) ≠ 38 := by decide

theorem Pairs.of_blocks {α : Type} {e0 e1 : α → Value} {w w' : World} {v : Value} {T : List α} (h : Pairs e0 e1 w v T) (hs : w.heap.size ≤ w'.heap.size) (hb : ∀ g k, g < w.heap.size → w.cell? ⟨g, k, none⟩ ≠ none → w'.heap[g]? = w.heap[g]?) : Pairs e0 e1 w' v T := by
  obtain ⟨base, cap, h1, h2⟩ := h
  refine ⟨base, cap, h1, fun k hk => ?_⟩
  obtain ⟨g, off, h3, h4, h5, h6⟩ := h2 k hk
  have hg := hb g (off + k * 2) h4 (by rw [h5]; simp)
  exact ⟨g, off, h3, Nat.lt_of_lt_of_le h4 hs, (World.cell?_of_block (a := ⟨g, _, none⟩) hg).trans h5, (World.cell?_of_block (a := ⟨g, _, none⟩) hg).trans h6⟩

/-- The specification's map is kept when the walls or things of the other are written. -/
theorem Map7.keep {w w' : World} {o o' : Hy.Ord} {mb wb tb mb7 : Nat} {W : Walls} {T : Things} {WL : WallList} {TL : ThingList} (h7 : Map7 w mb7 o' WL TL) (h : MRep w o mb wb tb W T) (ho : Only (fun k => (k = wb ∨ k = tb) ∨ w.heap.size ≤ k) w w') : Map7 w' mb7 o' WL TL := by
  obtain ⟨vw, vt, h1, h2, h3⟩ := h7
  obtain ⟨es, c, m1, _⟩ := h.walls
  obtain ⟨es2, c2, m2, _⟩ := h.things
  have key : ∀ g k, g < w.heap.size → w.cell? ⟨g, k, none⟩ ≠ none → w'.heap[g]? = w.heap[g]? := by
    intro g k hg hc
    refine ho.block g ?_
    rintro ((rfl | rfl) | hge)
    · exact hc (cell_of_map m1 (by intro _ _ _ h; cases h) k)
    · exact hc (cell_of_map m2 (by intro _ _ _ h; cases h) k)
    · omega
  have hlt := (Array.getElem?_eq_some_iff.1 h1).1
  refine ⟨vw, vt, (key mb7 0 hlt ?_).trans h1, h2.of_blocks ho.size key, h3.of_blocks ho.size key⟩
  rw [cell_of_heap h1]
  simp

/-- The walks' map is kept when the specification's is written. -/
theorem MRep.keep7 {w w' : World} {o o' : Hy.Ord} {mb wb tb mb7 : Nat} {W : Walls} {T : Things} {WL : WallList} {TL : ThingList} (h : MRep w o mb wb tb W T) (h7 : Map7 w mb7 o' WL TL) (ho : Only (fun k => k = mb7 ∨ w.heap.size ≤ k) w w') : MRep w' o mb wb tb W T := by
  obtain ⟨vw, vt, h1, _⟩ := h7
  obtain ⟨es, c, m1, _⟩ := h.walls
  obtain ⟨es2, c2, m2, _⟩ := h.things
  have hl := h.lt
  have n1 : mb ≠ mb7 := by
    rintro rfl
    have := h.cells
    rw [h1] at this
    simp only [Option.some.injEq, Obj.cells.injEq] at this
    exact types_ne this.2.1.symm
  have n2 : wb ≠ mb7 := by
    rintro rfl
    rw [h1] at m1
    cases m1
  have n3 : tb ≠ mb7 := by
    rintro rfl
    rw [h1] at m2
    cases m2
  exact ⟨(ho.block mb (by omega)).trans h.cells, h.walls.of_heap (ho.block wb (by omega)), h.things.of_heap (ho.block tb (by omega)), h.apart, h.ok⟩

/-- Lists of walls and things that are not too long, nor are their words. -/
structure Few (WL : WallList) (TL : ThingList) : Prop where
  nw : WL.length ≤ 100
  nt : TL.length ≤ 200
  fw : ∀ p ∈ WL, p.1.length ≤ 1000 ∧ 0 ≤ p.2
  ft : ∀ p ∈ TL, p.1.length ≤ 1000 ∧ p.2.length ≤ 1000

theorem Few.nil : Few [] [] := ⟨by simp, by simp, (by simp), (by simp)⟩

theorem Few.wall {WL : WallList} {TL : ThingList} (h : Few WL TL) {s : List UInt8 × Int} (hs : s.1.length ≤ 1000 ∧ 0 ≤ s.2) (there : Bool) : Few (putWall7 WL s there).2 TL := by
  unfold putWall7
  have hlt := (wallPlace_lt (t := s.1) (m := s.2) (T := WL) (i := 0))
  split
  · split
    · exact h
    · rename_i h1 h2
      have hp := insertIdx_perm (a := s) (l := WL) (d := (wallPlace s.1 s.2 WL 0).1) (by omega)
      refine ⟨?_, h.nt, fun p hp2 => ?_, h.ft⟩
      · have := hp.length_eq
        simp only [List.length_cons] at this
        simp only
        omega
      · rcases List.mem_cons.1 (hp.mem_iff.1 hp2) with rfl | hp2
        · exact hs
        · exact h.fw p hp2
  · split
    · refine ⟨Nat.le_trans (eraseIdx_sub WL _).length_le h.nw, h.nt, fun p hp => h.fw p ((eraseIdx_sub WL _).subset hp), h.ft⟩
    · exact h

theorem Few.thing {WL : WallList} {TL : ThingList} (h : Few WL TL) {u thing : List UInt8} (hu : u.length ≤ 1000) : Few WL (putThing7 TL u thing).2 := by
  unfold putThing7
  have hlt := (thingPlace_lt (t := u) (T := TL) (i := 0))
  split
  · exact h
  · rename_i h1
    have htl : thing.length ≤ 1000 := by
      have h2 : Hy.isThing thing = true := by simpa using h1
      unfold Hy.isThing at h2
      simp only [Bool.and_eq_true, decide_eq_true_eq] at h2
      omega
    split
    · exact h
    · rename_i h2
      refine ⟨h.nw, ?_, h.fw, fun p hp => ?_⟩
      · have := h.nt
        cases hpl : (thingPlace u TL 0).2 with
        | true =>
          have := hlt.2 hpl
          simp only [hpl, if_true, List.length_append, List.length_take, List.length_drop]
          split
          · simp; omega
          · simp; omega
        | false =>
          simp only [hpl, Bool.false_eq_true, if_false, List.length_append, List.length_take, List.length_drop]
          rw [hpl] at h2
          split
          · simp; omega
          · rename_i h3
            have : ¬ 200 ≤ TL.length := fun h4 => h2 ⟨h3, rfl, h4⟩
            simp; omega
      · simp only [List.mem_append] at hp
        rcases hp with (hp | hp) | hp
        · exact h.ft p (List.mem_of_mem_take hp)
        · split at hp
          · cases hp
          · rw [List.mem_singleton] at hp
            subst hp
            exact ⟨hu, htl⟩
        · exact h.ft p (List.mem_of_mem_drop hp)

/-- The error of a wall, the side that it is on, and what comes of it. -/
def wallErr (u : List UInt8) (m : Int) : Int := if Hy.wordErr u ≠ 0 then Hy.wordErr u else if m < 0 ∨ 2 < m then 1 else 0
def wallKey (o : Hy.Ord) (u : List UInt8) (m : Int) : List UInt8 × Int := (Hy.nearOf (nf7 o u) (nf7 o (u ++ Hy.letter m.toNat)), m)
def wallA (o : Hy.Ord) (W : Walls) (u : List UInt8) (m : Int) (there : Bool) : Int × Walls := if wallErr u m ≠ 0 then (wallErr u m, W) else putWall W (wallKey o u m) there
def wallA7 (o : Hy.Ord) (WL : WallList) (u : List UInt8) (m : Int) (there : Bool) : Int × WallList := if wallErr u m ≠ 0 then (wallErr u m, WL) else putWall7 WL (wallKey o u m) there

theorem wallErr_zero {u : List UInt8} {m : Int} (h : wallErr u m = 0) : Hy.wordErr u = 0 ∧ 0 ≤ m ∧ m ≤ 2 := by
  unfold wallErr at h
  split at h
  · rename_i h1; exact absurd h h1
  · rename_i h1
    split at h
    · cases h
    · exact ⟨by simpa using h1, by omega, by omega⟩

theorem wallA_rel {o : Hy.Ord} {W : Walls} {WL : WallList} (h : WRel W WL) (u : List UInt8) (m : Int) (there : Bool) : (wallA o W u m there).1 = (wallA7 o WL u m there).1 ∧ WRel (wallA o W u m there).2 (wallA7 o WL u m there).2 := by
  unfold wallA wallA7
  split
  · exact ⟨rfl, h⟩
  · exact putWall_rel h _ _

theorem nf7_len {o : Hy.Ord} (F : Hy.Fine o) {u : List UInt8} (hu : Lets u) (hl : u.length ≤ 1000) : (nf7 o u).length ≤ u.length ∧ Lets (nf7 o u) := by
  have h := (nf7_norm F hu hl).2
  exact ⟨h.len, lets_nf F h hu⟩

theorem Few.wallA {o : Hy.Ord} (F : Hy.Fine o) {WL : WallList} {TL : ThingList} (h : Few WL TL) (u : List UInt8) (m : Int) (there : Bool) : Few (wallA7 o WL u m there).2 TL := by
  unfold wallA7
  split
  · exact h
  · rename_i h1
    obtain ⟨hz, h2, h3⟩ := wallErr_zero (by simpa using h1)
    have hl := (Hy.wordErr_letters hz).2
    have a1 := nf7_len F (lets_of_err hz) (by omega)
    have a2 := nf7_len F (u := u ++ Hy.letter m.toNat) (Lets.app.2 ⟨lets_of_err hz, Hy.lets_letter (by omega)⟩) (by simp [Hy.letter]; omega)
    have a3 : (u ++ Hy.letter m.toNat).length = u.length + 1 := by simp [Hy.letter]
    refine h.wall ⟨?_, h2⟩ there
    unfold wallKey Hy.nearOf
    simp only
    split <;> omega

/-- Over a letter one comes to the same tile from a word and from its normal word. -/
theorem nf7_over {o : Hy.Ord} (F : Hy.Fine o) {u : List UInt8} (hz : Hy.wordErr u = 0) {m : Nat} (hm : m < 3) : nf7 o (nf7 o u ++ Hy.letter m) = nf7 o (u ++ Hy.letter m) := by
  have hl := (Hy.wordErr_letters hz).2
  have a1 := nf7_len F (lets_of_err hz) (by omega)
  have hN := nf7_norm F (lets_of_err hz) (by omega)
  refine nf7_eq F (Lets.app.2 ⟨a1.2, Hy.lets_letter hm⟩) (by simp [Hy.letter]; omega) ?_
  refine (nf7_norm F (x := u ++ Hy.letter m) (Lets.app.2 ⟨lets_of_err hz, Hy.lets_letter hm⟩) (by simp [Hy.letter]; omega)).2.congr (hN.2.eqv.symm.right _)

theorem walk_Wall_any {w : World} {o : Hy.Ord} {mb wb tb : Nat} {W : Walls} {T : Things} (F : Hy.Fine o) (h : MRep w o mb wb tb W T) (ho : Small o) (u : List UInt8) (hu : u.length ≤ 140737488355328) (m : Int) (there : Bool) :
    Calls Tryz.prog 21 #[.pointer (some ⟨mb, 0, none⟩), encEdge (u, m), .bool there] w fun e w' => e = .returned (.int .i64 (wallA o W u m there).1) ∧ MRep w' o mb wb tb (wallA o W u m there).2 T ∧ Only (fun k => k = wb ∨ w.heap.size ≤ k) w w' := by
  by_cases hz : Hy.wordErr u = 0
  · by_cases hm : m < 0 ∨ 2 < m
    · have he : wallErr u m = 1 := by unfold wallErr; rw [if_neg (by simpa using hz), if_pos hm]
      refine (walk_Wall_badMirror F h ho u hz m hm there).mono ?_
      rintro e w' ⟨rfl, hB⟩
      unfold wallA
      rw [he]
      exact ⟨rfl, h.grow hB, Only.of_below hB (fun k hk => .inr hk)⟩
    · have he : wallErr u m = 0 := by unfold wallErr; rw [if_neg (by simpa using hz), if_neg hm]
      obtain ⟨n, rfl⟩ : ∃ n : Nat, m = (n : Int) := ⟨m.toNat, by omega⟩
      have hn : n < 3 := by omega
      have hl := (Hy.wordErr_letters hz).2
      have a1 := nf7_len F (lets_of_err hz) (by omega)
      have hN := nf7_norm F (lets_of_err hz) (by omega)
      have hN2 := nf7_norm F (x := nf7 o u ++ Hy.letter n) (Lets.app.2 ⟨a1.2, Hy.lets_letter hn⟩) (by simp [Hy.letter]; omega)
      have hw2 : Hy.wordsErr [nf7 o u, Hy.letter n] = 0 := by
        rw [Hy.wordsErr_two, wordErr_lets a1.2 (by omega), wordErr_lets (Hy.lets_letter hn) (by simp [Hy.letter])]; rfl
      refine (walk_Wall_body h ho u hu n hn there 1000 _ _ h.ne.1 hz hN.1 hw2 hN2.1).mono ?_
      rintro e w' ⟨hO, rfl, hM⟩
      rw [nf7_over F hz hn] at hM ⊢
      unfold wallA wallKey
      rw [he]
      exact ⟨rfl, hM, hO⟩
  · have he : wallErr u m = Hy.wordErr u := by unfold wallErr; rw [if_pos hz]
    refine (walk_Wall_badWord h ho u hu m there hz).mono ?_
    rintro e w' ⟨rfl, hB⟩
    unfold wallA
    rw [he, if_pos hz]
    exact ⟨rfl, h.grow hB, Only.of_below hB (fun k hk => .inr hk)⟩

theorem r07_PutWall_any {w : World} {mb : Nat} {o : Hy.Ord} (F : Hy.Fine o) (hS : Small o) {WL : WallList} {TL : ThingList} (h : Map7 w mb o WL TL) (hF : Few WL TL) (u : List UInt8) (hu : u.length ≤ 140737488355328) (m : Int) (there : Bool) :
    Calls Tryz.prog 26 #[.pointer (some ⟨mb, 0, none⟩), encEdge (u, m), .bool there] w fun e w' => e = .returned (.int .i64 (wallA7 o WL u m there).1) ∧ Map7 w' mb o (wallA7 o WL u m there).2 TL ∧ Only (fun k => k = mb ∨ w.heap.size ≤ k) w w' := by
  by_cases hz : Hy.wordErr u = 0
  · by_cases hm : m < 0 ∨ 2 < m
    · have he : wallErr u m = 1 := by unfold wallErr; rw [if_neg (by simpa using hz), if_pos hm]
      refine (r07_PutWall_badMirror (w := w) (mb := mb) (by omega) hz hm there).mono ?_
      rintro e w' ⟨rfl, hB⟩
      unfold wallA7
      rw [he]
      exact ⟨rfl, h.below hB, Only.of_below hB (fun k hk => .inr hk)⟩
    · have he : wallErr u m = 0 := by unfold wallErr; rw [if_neg (by simpa using hz), if_neg hm]
      obtain ⟨n, rfl⟩ : ∃ n : Nat, m = (n : Int) := ⟨m.toNat, by omega⟩
      have hn : n < 3 := by omega
      have hl := (Hy.wordErr_letters hz).2
      have hN := nf7_norm F (lets_of_err hz) (by omega)
      have hN2 := nf7_norm F (x := u ++ Hy.letter n) (Lets.app.2 ⟨lets_of_err hz, Hy.lets_letter hn⟩) (by simp [Hy.letter]; omega)
      refine (r07_PutWall F hS h (by have := hF.nw; omega) hz hn there hN.2 hN2.2).mono ?_
      rintro e w' ⟨rfl, hM, hO⟩
      unfold wallA7 wallKey
      rw [he]
      exact ⟨rfl, hM, hO⟩
  · have he : wallErr u m = Hy.wordErr u := by unfold wallErr; rw [if_pos hz]
    refine (r07_PutWall_badWord (w := w) (mb := mb) (by omega) hz m there).mono ?_
    rintro e w' ⟨rfl, hB⟩
    unfold wallA7
    rw [he, if_pos hz]
    exact ⟨rfl, h.below hB, Only.of_below hB (fun k hk => .inr hk)⟩

/-- What comes of a thing that is put. -/
def thingA (o : Hy.Ord) (T : Things) (u thing : List UInt8) : Int × Things := if Hy.wordErr u ≠ 0 then (Hy.wordErr u, T) else putThing T (nf7 o u) thing
def thingA7 (o : Hy.Ord) (TL : ThingList) (u thing : List UInt8) : Int × ThingList := if Hy.wordErr u ≠ 0 then (Hy.wordErr u, TL) else putThing7 TL (nf7 o u) thing

theorem thingA_rel {o : Hy.Ord} {T : Things} {TL : ThingList} (h : TRel T TL) (u thing : List UInt8) : (thingA o T u thing).1 = (thingA7 o TL u thing).1 ∧ TRel (thingA o T u thing).2 (thingA7 o TL u thing).2 := by
  unfold thingA thingA7
  split
  · exact ⟨rfl, h⟩
  · exact putThing_rel h _ _

theorem Few.thingA {o : Hy.Ord} (F : Hy.Fine o) {WL : WallList} {TL : ThingList} (h : Few WL TL) (u thing : List UInt8) : Few WL (thingA7 o TL u thing).2 := by
  unfold thingA7
  split
  · exact h
  · rename_i h1
    have hz : Hy.wordErr u = 0 := by simpa using h1
    have hl := (Hy.wordErr_letters hz).2
    have a1 := nf7_len F (lets_of_err hz) (by omega)
    exact h.thing (by omega)

theorem walk_Put_any {w : World} {o : Hy.Ord} {mb wb tb : Nat} {W : Walls} {T : Things} (F : Hy.Fine o) (h : MRep w o mb wb tb W T) (ho : Small o) (u thing : List UInt8) (hu : u.length ≤ 140737488355328) (ht : thing.length ≤ 140737488355328) :
    Calls Tryz.prog 23 #[.pointer (some ⟨mb, 0, none⟩), str u, str thing] w fun e w' => e = .returned (.int .i64 (thingA o T u thing).1) ∧ MRep w' o mb wb tb W (thingA o T u thing).2 ∧ Only (fun k => k = tb ∨ w.heap.size ≤ k) w w' := by
  refine (walk_Put h h.ne.2 ho u thing hu ht 1000 (nf7 o u) (fun hz => (nf7_norm F (lets_of_err hz) (by have := (Hy.wordErr_letters hz).2; omega)).1)).mono ?_
  rintro e w' ⟨hO, hp⟩
  unfold thingA
  by_cases hz : Hy.wordErr u = 0
  · rw [if_pos hz] at hp
    rw [if_neg (by simpa using hz)]
    exact ⟨hp.1, hp.2, hO⟩
  · rw [if_neg hz] at hp
    rw [if_pos hz]
    exact ⟨hp.1, hp.2, hO⟩

theorem r07_Put_any {w : World} {mb : Nat} {o : Hy.Ord} (F : Hy.Fine o) (hS : Small o) {WL : WallList} {TL : ThingList} (h : Map7 w mb o WL TL) (hF : Few WL TL) (u thing : List UInt8) (hu : u.length ≤ 140737488355328) (ht : thing.length ≤ 140737488355328) :
    Calls Tryz.prog 27 #[.pointer (some ⟨mb, 0, none⟩), str u, str thing] w fun e w' => e = .returned (.int .i64 (thingA7 o TL u thing).1) ∧ Map7 w' mb o WL (thingA7 o TL u thing).2 ∧ Only (fun k => k = mb ∨ w.heap.size ≤ k) w w' := by
  unfold thingA7
  by_cases hz : Hy.wordErr u = 0
  · rw [if_neg (by simpa using hz)]
    have hl := (Hy.wordErr_letters hz).2
    exact r07_Put F hS h (by have := hF.nt; omega) hz (nf7_norm F (lets_of_err hz) (by omega)).2 (by omega)
  · rw [if_pos hz]
    refine (r07_Put_badWord (w := w) (mb := mb) (by omega) hz).mono ?_
    rintro e w' ⟨rfl, hB⟩
    exact ⟨rfl, h.below hB, Only.of_below hB (fun k hk => .inr hk)⟩

/-- A walk along a word always ends. -/
theorem go_some {o : Hy.Ord} (F : Hy.Fine o) {wall : List UInt8 → Int → Bool} {su l : List UInt8} (hsu : Lets su) (hlen : su.length ≤ 60) (hl : Lets l) (hll : l.length ≤ 60) : ∀ (r : Nat) (x : List UInt8), r ≤ l.length → ∃ p, Hy.goSteps o 1000 wall su l r x = some p
  | 0, x, _ => ⟨(x, l.length), rfl⟩
  | r + 1, x, hr => by
    obtain ⟨k, hk⟩ : ∃ k, k = l.length - (r + 1) := ⟨_, rfl⟩
    have hkl : k < l.length := by omega
    have hk1 : l.length - r = k + 1 := by omega
    have hlt : ∀ k, Lets (l.take k) := fun k c hc => hl c (List.mem_of_mem_take hc)
    obtain ⟨nx, hn, hN⟩ := Hy.norm_ok F (fuel := 1000) (w := su ++ l.take (k + 1)) (Lets.app.2 ⟨hsu, hlt _⟩) (by simp; omega) (by simp; omega)
    have hwe : Hy.wordsErr [su, l.take (k + 1)] = 0 := by
      rw [Hy.wordsErr_two, wordErr_lets hsu hlen, wordErr_lets (hlt _) (by simp; omega)]
      rfl
    unfold Hy.goSteps
    rw [hk1, if_neg (by simpa using hwe), hn, ← hk, List.getElem?_eq_getElem hkl]
    simp only
    split
    · exact ⟨_, rfl⟩
    · exact go_some F hsu hlen hl hll r nx (by omega)
end Go.Proofs.YtbfnnlcckpabnaaGreat

/- The law's small functions: equal, asked, long. -/
namespace Go.Proofs.YtbfnnlcckpabnaaGreat
set_option linter.unusedSimpArgs false
set_option linter.unusedVariables false
open Go.RowKit
open Hy (Lets IsNF Eqv Le)

theorem bytes_eq_iff (a b : List UInt8) : ((⟨a.toArray⟩ : ByteArray) = ⟨b.toArray⟩) ↔ a = b := by
  constructor
  · intro h
    have := congrArg (fun x : ByteArray => x.data.toList) h
    simpa using this
  · rintro rfl; rfl

/-- A slice of bytes as a text. -/
theorem BSlice.text {N : Nat} {w : World} {v : Value} {l : List UInt8} (h : BSlice N w v l) (W' : World) (hW : ∀ g, g < N → W'.heap[g]? = w.heap[g]?) : (convert 42 9 v).run Tryz.prog W' = .ok (str l) W' := by
  obtain ⟨a, cap, rfl, h2, h3⟩ := h
  cases hl : l with
  | nil =>
    rw [List.length_nil, run_convert_bytes_string W' _ _ _ a 0 cap Tryz.underlying42 Tryz.underlying5 Tryz.underlying9]
    cases a with
    | none => simp [Conv.bytesToString, str]; rfl
    | some ad =>
      rw [run_bytesToString (P := Tryz.prog) W' ad 0 cap [] (by rfl)]
      rfl
  | cons x r =>
    obtain ⟨g, off, rfl, h4, _⟩ := h3 0 (by rw [hl]; simp)
    rw [← hl]
    refine run_convert_bytes_back W' _ _ _ ⟨g, off, none⟩ cap l Tryz.underlying42 Tryz.underlying5 Tryz.underlying9 (fun j hj => ?_)
    obtain ⟨g', off', e1, h5, h6⟩ := h3 j hj
    cases e1
    rw [Addr.add_lit, World.cell?_of_block (w := w) (a := ⟨g, off + j, none⟩) (hW g h4), h6]

theorem IS.bytes {w w' : World} {g : Nat} {v : Value} {L : List UInt8} (h : IS w w' g v L) : BSlice w'.heap.size w' v L := by
  obtain ⟨off, cap, h1, h2, h3, h4, h5, h6, h7⟩ := h.row
  refine ⟨_, cap, h1, h2, fun k hk => ⟨g, off, rfl, h7, h5 k _ ?_⟩⟩
  simp [bcells, List.getElem?_map, List.getElem?_eq_getElem hk]

theorem BSlice.grow {w w' : World} {v : Value} {l : List UInt8} (h : BSlice w.heap.size w v l) (hb : Below w.heap.size w w') : BSlice w'.heap.size w' v l := by
  obtain ⟨a, cap, h1, h2, h3⟩ := h.of_heap (fun g hg => hb.block g hg)
  exact ⟨a, cap, h1, h2, fun k hk => by obtain ⟨g, off, a1, a2, a3⟩ := h3 k hk; exact ⟨g, off, a1, Nat.lt_of_lt_of_le a2 hb.size, a3⟩⟩

set_option maxRecDepth 100000 in
set_option maxHeartbeats 1000000 in
theorem law_equal {w : World} {v1 v2 : Value} {L1 L2 : List UInt8} (h1 : BSlice w.heap.size w v1 L1) (h2 : BSlice w.heap.size w v2 L2) :
    Calls Tryz.prog 12 #[v1, v2] w fun e w' => e = .returned (.bool (decide (L1 = L2))) ∧ Below w.heap.size w w' := by
  have c1 := h1.text w (fun _ _ => rfl)
  have c2 := h2.text w (fun _ _ => rfl)
  have hb : (⟨L1.toArray⟩ : ByteArray) = ⟨L2.toArray⟩ ↔ L1 = L2 := bytes_eq_iff L1 L2
  clear h1 h2
  unfold str at *
  go_enter Tryz.func12, Tryz.ntmps12
  go_wp2_with fail
  go_ret
  refine ⟨?_, Below.refl _ _⟩
  congr 2
  by_cases h : L1 = L2
  · subst h; simp
  · simp [h, hb]

theorem asked_eq (u v : List UInt8) : Hy.wordsErr [u, v] = if Hy.wordErr u ≠ 0 then Hy.wordErr u else Hy.wordErr v := Hy.wordsErr_two u v

set_option maxRecDepth 100000 in
set_option maxHeartbeats 1000000 in
theorem law_asked {w : World} {u v : List UInt8} (hu : u.length ≤ 9223372036854775807) (hv : v.length ≤ 9223372036854775807) :
    Calls Tryz.prog 28 #[str u, str v] w fun e w' => e = .returned (.int .i64 (Hy.wordsErr [u, v])) ∧ Below w.heap.size w w' := by
  have HU := Lib.hid (fun W => r03_CheckWord u W hu)
  have HV := Lib.hid (fun W => r03_CheckWord v W hv)
  rw [asked_eq]
  generalize Hy.wordErr u = a at *
  generalize Hy.wordErr v = b at *
  clear hu hv
  unfold str at *
  by_cases h : a = 0
  · rw [if_neg (by simpa using h)]
    subst h
    go_enter Tryz.func28, Tryz.ntmps28
    go_wp2_with fail
    refine (HU.out _).mono ?_
    rintro e w1 ⟨rfl, hB1⟩
    have HB1 := Lib.hid hB1; clear hB1
    go_wp2_with fail
    refine (HV.out _).mono ?_
    rintro e w2 ⟨rfl, hB2⟩
    have HB2 := Lib.hid (HB1.out.trans (hB2.mono HB1.out.size)); clear hB2
    go_wp2_with fail
    go_ret
    exact ⟨rfl, HB2.out⟩
  · rw [if_pos h]
    have g1 : (a != 0) = true := by rw [bne_iff_ne]; exact h
    clear h
    go_enter Tryz.func28, Tryz.ntmps28
    go_wp2_with fail
    refine (HU.out _).mono ?_
    rintro e w1 ⟨rfl, hB1⟩
    have HB1 := Lib.hid hB1; clear hB1
    go_wp2_with fail
    go_ret
    exact ⟨rfl, HB1.out⟩

set_option maxRecDepth 100000 in
set_option maxHeartbeats 1000000 in
theorem law_long {w : World} (kind m : Int) (is : Bool) (u v t : List UInt8) (hu : u.length ≤ 9223372036854775807) (hv : v.length ≤ 9223372036854775807) (ht : t.length ≤ 9223372036854775807) :
    Calls Tryz.prog 6 #[.agg #[.int .i64 kind, .int .i64 m, .bool is, str u, str v, str t]] w fun e w' => e = .returned (.bool (decide (200 < u.length ∨ 200 < v.length ∨ 200 < t.length))) ∧ Below w.heap.size w w' := by
  unfold str at *
  by_cases h1 : 200 < u.length
  · go_enter Tryz.func6, Tryz.ntmps6
    go_wp2_with fail
    go_ret
    exact ⟨by simp [h1], (Below.refl _ _).alloc (Nat.le_refl _) _⟩
  · by_cases h2 : 200 < v.length
    · go_enter Tryz.func6, Tryz.ntmps6
      go_wp2_with fail
      go_ret
      exact ⟨by simp [h1, h2], (Below.refl _ _).alloc (Nat.le_refl _) _⟩
    · by_cases h3 : 200 < t.length
      · go_enter Tryz.func6, Tryz.ntmps6
        go_wp2_with fail
        go_ret
        exact ⟨by simp [h1, h2, h3]; omega, (Below.refl _ _).alloc (Nat.le_refl _) _⟩
      · go_enter Tryz.func6, Tryz.ntmps6
        go_wp2_with fail
        go_ret
        exact ⟨by simp [h1, h2, h3]; omega, (Below.refl _ _).alloc (Nat.le_refl _) _⟩
end Go.Proofs.YtbfnnlcckpabnaaGreat

/- The law's agrees: walls and things are put. -/
namespace Go.Proofs.YtbfnnlcckpabnaaGreat
set_option linter.unusedSimpArgs false
set_option linter.unusedVariables false
open Go.RowKit
open Hy (Lets IsNF Eqv Le)

/-- Both maps, with the same walls and things. -/
structure Both (w : World) (o : Hy.Ord) (mb wb tb mb7 : Nat) (W : Walls) (T : Things) (WL : WallList) (TL : ThingList) : Prop where
  rep : MRep w o mb wb tb W T
  m7 : Map7 w mb7 o WL TL
  walls : WRel W WL
  things : TRel T TL
  few : Few WL TL

theorem Both.below {w w' : World} {o : Hy.Ord} {mb wb tb mb7 : Nat} {W : Walls} {T : Things} {WL : WallList} {TL : ThingList} (h : Both w o mb wb tb mb7 W T WL TL) (hb : Below w.heap.size w w') : Both w' o mb wb tb mb7 W T WL TL :=
  ⟨h.rep.grow hb, h.m7.below hb, h.walls, h.things, h.few⟩

/-- What may change. -/
def Mine3 (wb tb mb7 n : Nat) (k : Nat) : Prop := (k = wb ∨ k = tb ∨ k = mb7) ∨ n ≤ k

/-- Both maps stand, and only their own blocks have changed. -/
def Still (w : World) (o : Hy.Ord) (mb wb tb mb7 : Nat) (WL : WallList) (TL : ThingList) (e : Ending) (w' : World) : Prop :=
  e = .returned (.bool true) ∧ Only (Mine3 wb tb mb7 w.heap.size) w w' ∧ ∃ W T, Both w' o mb wb tb mb7 W T WL TL

/-- While a side is written: whether the one map has been written, and the other. -/
structure Two (w : World) (o : Hy.Ord) (mb wb tb mb7 : Nat) (W : Walls) (T : Things) (WL : WallList) (TL : ThingList) (w' : World) : Prop where
  rep : MRep w' o mb wb tb W T
  m7 : Map7 w' mb7 o WL TL
  only : Only (Mine3 wb tb mb7 w.heap.size) w w'
  n1 : w.heap.size ≤ w'.heap.size

theorem Two.walk {w w1 w2 : World} {o : Hy.Ord} {mb wb tb mb7 : Nat} {W W' : Walls} {T T' : Things} {WL : WallList} {TL : ThingList} (h : Two w o mb wb tb mb7 W T WL TL w1) (hM : MRep w2 o mb wb tb W' T') (ho : Only (fun k => (k = wb ∨ k = tb) ∨ w1.heap.size ≤ k) w1 w2) : Two w o mb wb tb mb7 W' T' WL TL w2 :=
  ⟨hM, h.m7.keep h.rep ho, h.only.trans (ho.mono fun k hk => by
    have := h.n1
    rcases hk with (hk | hk) | hk
    · exact .inl (.inl hk)
    · exact .inl (.inr (.inl hk))
    · exact .inr (by omega)), Nat.le_trans h.n1 ho.size⟩

theorem Two.seven {w w1 w2 : World} {o : Hy.Ord} {mb wb tb mb7 : Nat} {W : Walls} {T : Things} {WL WL' : WallList} {TL TL' : ThingList} (h : Two w o mb wb tb mb7 W T WL TL w1) (hM : Map7 w2 mb7 o WL' TL') (ho : Only (fun k => k = mb7 ∨ w1.heap.size ≤ k) w1 w2) : Two w o mb wb tb mb7 W T WL' TL' w2 :=
  ⟨h.rep.keep7 h.m7 ho, hM, h.only.trans (ho.mono fun k hk => by
    have := h.n1
    rcases hk with hk | hk
    · exact .inl (.inr (.inr hk))
    · exact .inr (by omega)), Nat.le_trans h.n1 ho.size⟩

theorem Two.below {w w1 w2 : World} {o : Hy.Ord} {mb wb tb mb7 : Nat} {W : Walls} {T : Things} {WL : WallList} {TL : ThingList} (h : Two w o mb wb tb mb7 W T WL TL w1) (hb : Below w1.heap.size w1 w2) : Two w o mb wb tb mb7 W T WL TL w2 :=
  ⟨h.rep.grow hb, h.m7.below hb, h.only.trans (Only.of_below hb fun k hk => Or.inr (by have := h.n1; omega)), Nat.le_trans h.n1 hb.size⟩

/-- Blocks of the call's own lie as they were. -/
theorem Two.block {w w1 w2 : World} {o : Hy.Ord} {mb wb tb mb7 : Nat} {W : Walls} {T : Things} {WL : WallList} {TL : ThingList} (h : Both w o mb wb tb mb7 W T WL TL) {k : Nat} (hk : w.heap.size ≤ k) : k ≠ wb ∧ k ≠ tb ∧ k ≠ mb7 := by
  have := h.rep.lt
  obtain ⟨_, _, h1, _⟩ := h.m7
  have := (Array.getElem?_eq_some_iff.1 h1).1
  omega

def opV (kind m : Int) (is : Bool) (u v t : List UInt8) : Value := .agg #[.int .i64 kind, .int .i64 m, .bool is, str u, str v, str t]

set_option maxRecDepth 100000 in
set_option maxHeartbeats 4000000 in
theorem agrees_wall {w : World} {o : Hy.Ord} {mb wb tb mb7 : Nat} {W : Walls} {T : Things} {WL : WallList} {TL : ThingList} (F : Hy.Fine o) (hS : Small o) (h : Both w o mb wb tb mb7 W T WL TL) (m : Int) (is : Bool) (u v t : List UInt8) (hu : u.length ≤ 140737488355328) :
    Calls Tryz.prog 11 #[.pointer (some ⟨mb, 0, none⟩), .pointer (some ⟨mb7, 0, none⟩), opV 0 m is u v t] w (Still w o mb wb tb mb7 (wallA7 o WL u m is).2 TL) := by
  obtain ⟨e1, hrel⟩ := wallA_rel (o := o) h.walls u m is
  have hfew := h.few.wallA F u m is
  have HA := Lib.hid (fun W1 WL1 (hT : Two w o mb wb tb mb7 W T WL1 TL W1) => (walk_Wall_any F hT.rep hS u hu m is).mono fun e w' hp => (show e = .returned (.int .i64 (wallA o W u m is).1) ∧ Two w o mb wb tb mb7 (wallA o W u m is).2 T WL1 TL w' ∧ Only (fun k => k = wb ∨ W1.heap.size ≤ k) W1 w' from ⟨hp.1, hT.walk hp.2.1 (hp.2.2.mono fun k hk => hk.imp .inl id), hp.2.2⟩))
  have HB := Lib.hid (fun W1 (X : Walls) (hT : Two w o mb wb tb mb7 X T WL TL W1) => (r07_PutWall_any F hS hT.m7 h.few u hu m is).mono fun e w' hp => (show e = .returned (.int .i64 (wallA7 o WL u m is).1) ∧ Two w o mb wb tb mb7 X T (wallA7 o WL u m is).2 TL w' ∧ Only (fun k => k = mb7 ∨ W1.heap.size ≤ k) W1 w' from ⟨hp.1, hT.seven hp.2.1 hp.2.2, hp.2.2⟩))
  have HEND := Lib.hid (fun W1 (hT : Two w o mb wb tb mb7 (wallA o W u m is).2 T (wallA7 o WL u m is).2 TL W1) => (⟨rfl, hT.only, _, _, hT.rep, hT.m7, hrel, h.things, hfew⟩ : Still w o mb wb tb mb7 (wallA7 o WL u m is).2 TL (.returned (.bool true)) W1))
  rw [← e1] at HB
  have HT0 := Lib.hid (⟨h.rep, h.m7, Only.refl _ _, Nat.le_refl _⟩ : Two w o mb wb tb mb7 W T WL TL w)
  have HN := Lib.hid (fun k (hk : w.heap.size ≤ k) => Two.block (w1 := w) (w2 := w) h hk)
  generalize (wallA o W u m is).2 = W' at *
  generalize (wallA7 o WL u m is).2 = WL' at *
  generalize (wallA o W u m is).1 = er at *
  clear e1 hrel hfew h hu
  unfold opV str encEdge at *
  go_enter Tryz.func11, Tryz.ntmps11
  go_upto_region 4 with fail
  obtain ⟨W0, hW0⟩ : ∃ W0, (w.alloc (.cells #[.int .i64 0, .int .i64 m, .bool is, .string ⟨u.toArray⟩, .string ⟨v.toArray⟩, .string ⟨t.toArray⟩] 27)).alloc (.cells #[.string ⟨u.toArray⟩, .int .i64 m] 64) = W0 := ⟨_, rfl⟩
  have hb0 : Below w.heap.size w W0 := by rw [← hW0]; exact ((Below.refl _ _).alloc (Nat.le_refl _) _).alloc (by simp) _
  have hs0 : W0.heap.size = w.heap.size + 2 := by rw [← hW0]; simp
  have k1 : W0.cell? ⟨w.heap.size, 2, none⟩ = some (.bool is) := by
    rw [← hW0, cell_of_heap (((Below.refl _ (w.alloc _)).alloc (Nat.le_refl _) _).block w.heap.size (by simp) |>.trans (alloc_heap_new w _))]; rfl
  have q1 : W0.heap[w.heap.size + 1]? = some (.cells #[.string ⟨u.toArray⟩, .int .i64 m] 64 (0, 0)) := by
    have := alloc_heap_new (w.alloc (.cells #[.int .i64 0, .int .i64 m, .bool is, .string ⟨u.toArray⟩, .string ⟨v.toArray⟩, .string ⟨t.toArray⟩] 27)) (.cells #[.string ⟨u.toArray⟩, .int .i64 m] 64)
    rw [hW0] at this
    simpa using this
  have k2 : W0.cell? ⟨w.heap.size + 1, 0, none⟩ = some (.string ⟨u.toArray⟩) := by rw [cell_of_heap q1]; rfl
  have k3 : W0.cell? ⟨w.heap.size + 1, 1, none⟩ = some (.int .i64 m) := by rw [cell_of_heap q1]; rfl
  rw [hW0]
  have HT1 := Lib.hid (HT0.out.below hb0)
  have HSC := Lib.hid (fun (W1 W2 : World) (hs : w.heap.size + 2 ≤ W1.heap.size) (B : Nat → Prop) (hB : ∀ k, B k → k = wb ∨ k = tb ∨ k = mb7 ∨ W1.heap.size ≤ k) (ho : Only B W1 W2) b k (hk : w.heap.size ≤ b ∧ b < w.heap.size + 2) => (World.cell?_of_block (a := ⟨b, k, none⟩) (ho.block b (fun hb => by
    obtain ⟨n1, n2, n3⟩ := HN.out b hk.1
    rcases hB b hb with h | h | h | h
    · exact n1 h
    · exact n2 h
    · exact n3 h
    · omega)) : W2.cell? ⟨b, k, none⟩ = W1.cell? ⟨b, k, none⟩))
  have HX := Lib.hid (fun (W1 : World) (ho : Only (fun k => k = wb ∨ W0.heap.size ≤ k) W0 W1) => (⟨(HSC.out W0 W1 (by omega) _ (fun k hk => by rcases hk with hk | hk <;> simp [hk]) ho _ _ ⟨Nat.le_refl _, by omega⟩).trans k1, (HSC.out W0 W1 (by omega) _ (fun k hk => by rcases hk with hk | hk <;> simp [hk]) ho _ _ ⟨by omega, by omega⟩).trans k2, (HSC.out W0 W1 (by omega) _ (fun k hk => by rcases hk with hk | hk <;> simp [hk]) ho _ _ ⟨by omega, by omega⟩).trans k3, ho.size⟩ : W1.cell? ⟨w.heap.size, 2, none⟩ = some (.bool is) ∧ W1.cell? ⟨w.heap.size + 1, 0, none⟩ = some (.string ⟨u.toArray⟩) ∧ W1.cell? ⟨w.heap.size + 1, 1, none⟩ = some (.int .i64 m) ∧ W0.heap.size ≤ W1.heap.size))
  have HY := Lib.hid (fun (W1 W2 : World) (hs : W0.heap.size ≤ W1.heap.size) (g1 : W1.cell? ⟨w.heap.size, 2, none⟩ = some (.bool is)) (g2 : W1.cell? ⟨w.heap.size + 1, 0, none⟩ = some (.string ⟨u.toArray⟩)) (g3 : W1.cell? ⟨w.heap.size + 1, 1, none⟩ = some (.int .i64 m)) (ho : Only (fun k => k = mb7 ∨ W1.heap.size ≤ k) W1 W2) => (⟨(HSC.out W1 W2 (by omega) _ (fun k hk => by rcases hk with hk | hk <;> simp [hk]) ho _ _ ⟨Nat.le_refl _, by omega⟩).trans g1, (HSC.out W1 W2 (by omega) _ (fun k hk => by rcases hk with hk | hk <;> simp [hk]) ho _ _ ⟨by omega, by omega⟩).trans g2, (HSC.out W1 W2 (by omega) _ (fun k hk => by rcases hk with hk | hk <;> simp [hk]) ho _ _ ⟨by omega, by omega⟩).trans g3⟩ : W2.cell? ⟨w.heap.size, 2, none⟩ = some (.bool is) ∧ W2.cell? ⟨w.heap.size + 1, 0, none⟩ = some (.string ⟨u.toArray⟩) ∧ W2.cell? ⟨w.heap.size + 1, 1, none⟩ = some (.int .i64 m)))
  clear hW0 hb0 q1 HT0
  go_region_held3 (fun w' => w'.cell? ⟨w.heap.size, 2, none⟩ = some (.bool is) ∧ w'.cell? ⟨w.heap.size + 1, 0, none⟩ = some (.string ⟨u.toArray⟩) ∧ w'.cell? ⟨w.heap.size + 1, 1, none⟩ = some (.int .i64 m))
    (first | go_keep | (exact ⟨p0, p1, p2⟩) | (exact ⟨n0, n1, n2⟩))
    ((first
      | (go_at_call 21; refine (HA.out _ WL (by first | exact HT1.out | exact HT1.out.below (Below.refl _ _).drew)).mono ?_; rintro e w1 ⟨rfl, hT1, hO1⟩; have HT2 := Lib.hid hT1; have hO1' : Only (fun k => k = wb ∨ W0.heap.size ≤ k) W0 w1 := (by first | exact hO1 | exact only_undrew hO1); obtain ⟨n0, n1, n2, nz⟩ := HX.out _ hO1'; clear hT1 hO1 hO1')
      | (go_at_call 26; refine (HB.out _ _ HT2.out).mono ?_; rintro e w2 ⟨rfl, hT2, hO2⟩; have HT3 := Lib.hid hT2; obtain ⟨p0, p1, p2⟩ := HY.out _ _ nz n0 n1 n2 hO2; clear hT2 hO2)))
  all_goals go_wp2_with fail
  go_ret
  exact ⟨rfl, (HEND.out _ HT3.out).2⟩
set_option maxRecDepth 100000 in
set_option maxHeartbeats 4000000 in
theorem agrees_put {w : World} {o : Hy.Ord} {mb wb tb mb7 : Nat} {W : Walls} {T : Things} {WL : WallList} {TL : ThingList} (F : Hy.Fine o) (hS : Small o) (h : Both w o mb wb tb mb7 W T WL TL) (m : Int) (is : Bool) (u v t : List UInt8) (hu : u.length ≤ 140737488355328) (ht : t.length ≤ 140737488355328) :
    Calls Tryz.prog 11 #[.pointer (some ⟨mb, 0, none⟩), .pointer (some ⟨mb7, 0, none⟩), opV 1 m is u v t] w (Still w o mb wb tb mb7 WL (thingA7 o TL u t).2) := by
  obtain ⟨e1, hrel⟩ := thingA_rel (o := o) h.things u t
  have hfew := h.few.thingA F u t
  have HA := Lib.hid (fun W1 TL1 (hT : Two w o mb wb tb mb7 W T WL TL1 W1) => (walk_Put_any F hT.rep hS u t hu ht).mono fun e w' hp => (show e = .returned (.int .i64 (thingA o T u t).1) ∧ Two w o mb wb tb mb7 W (thingA o T u t).2 WL TL1 w' ∧ Only (fun k => k = tb ∨ W1.heap.size ≤ k) W1 w' from ⟨hp.1, hT.walk hp.2.1 (hp.2.2.mono fun k hk => hk.imp .inr id), hp.2.2⟩))
  have HB := Lib.hid (fun W1 (X : Things) (hT : Two w o mb wb tb mb7 W X WL TL W1) => (r07_Put_any F hS hT.m7 h.few u t hu ht).mono fun e w' hp => (show e = .returned (.int .i64 (thingA7 o TL u t).1) ∧ Two w o mb wb tb mb7 W X WL (thingA7 o TL u t).2 w' ∧ Only (fun k => k = mb7 ∨ W1.heap.size ≤ k) W1 w' from ⟨hp.1, hT.seven hp.2.1 hp.2.2, hp.2.2⟩))
  have HEND := Lib.hid (fun W1 (hT : Two w o mb wb tb mb7 W (thingA o T u t).2 WL (thingA7 o TL u t).2 W1) => (⟨rfl, hT.only, _, _, hT.rep, hT.m7, h.walls, hrel, hfew⟩ : Still w o mb wb tb mb7 WL (thingA7 o TL u t).2 (.returned (.bool true)) W1))
  rw [← e1] at HB
  have HT0 := Lib.hid (⟨h.rep, h.m7, Only.refl _ _, Nat.le_refl _⟩ : Two w o mb wb tb mb7 W T WL TL w)
  have HN := Lib.hid (fun k (hk : w.heap.size ≤ k) => Two.block (w1 := w) (w2 := w) h hk)
  generalize (thingA o T u t).2 = T' at *
  generalize (thingA7 o TL u t).2 = TL' at *
  generalize (thingA o T u t).1 = er at *
  clear e1 hrel hfew h hu ht
  unfold opV str at *
  go_enter Tryz.func11, Tryz.ntmps11
  go_upto_region 6 with fail
  obtain ⟨W0, hW0⟩ : ∃ W0, w.alloc (.cells #[.int .i64 1, .int .i64 m, .bool is, .string ⟨u.toArray⟩, .string ⟨v.toArray⟩, .string ⟨t.toArray⟩] 27) = W0 := ⟨_, rfl⟩
  have hb0 : Below w.heap.size w W0 := by rw [← hW0]; exact (Below.refl _ _).alloc (Nat.le_refl _) _
  have hs0 : W0.heap.size = w.heap.size + 1 := by rw [← hW0]; simp
  have q1 : W0.heap[w.heap.size]? = some (.cells #[.int .i64 1, .int .i64 m, .bool is, .string ⟨u.toArray⟩, .string ⟨v.toArray⟩, .string ⟨t.toArray⟩] 27 (0, 0)) := by rw [← hW0]; exact alloc_heap_new w _
  have k1 : W0.cell? ⟨w.heap.size, 3, none⟩ = some (.string ⟨u.toArray⟩) := by rw [cell_of_heap q1]; rfl
  have k2 : W0.cell? ⟨w.heap.size, 5, none⟩ = some (.string ⟨t.toArray⟩) := by rw [cell_of_heap q1]; rfl
  rw [hW0]
  have HT1 := Lib.hid (HT0.out.below hb0)
  have HSC := Lib.hid (fun (W1 W2 : World) (hs : w.heap.size + 1 ≤ W1.heap.size) (B : Nat → Prop) (hB : ∀ k, B k → k = wb ∨ k = tb ∨ k = mb7 ∨ W1.heap.size ≤ k) (ho : Only B W1 W2) k => (World.cell?_of_block (a := ⟨w.heap.size, k, none⟩) (ho.block w.heap.size (fun hb => by
    obtain ⟨n1, n2, n3⟩ := HN.out w.heap.size (Nat.le_refl _)
    rcases hB _ hb with h | h | h | h
    · exact n1 h
    · exact n2 h
    · exact n3 h
    · omega)) : W2.cell? ⟨w.heap.size, k, none⟩ = W1.cell? ⟨w.heap.size, k, none⟩))
  have HX := Lib.hid (fun (W1 : World) (ho : Only (fun k => k = tb ∨ W0.heap.size ≤ k) W0 W1) => (⟨(HSC.out W0 W1 (by omega) _ (fun k hk => by rcases hk with hk | hk <;> simp [hk]) ho _).trans k1, (HSC.out W0 W1 (by omega) _ (fun k hk => by rcases hk with hk | hk <;> simp [hk]) ho _).trans k2, ho.size⟩ : W1.cell? ⟨w.heap.size, 3, none⟩ = some (.string ⟨u.toArray⟩) ∧ W1.cell? ⟨w.heap.size, 5, none⟩ = some (.string ⟨t.toArray⟩) ∧ W0.heap.size ≤ W1.heap.size))
  have HY := Lib.hid (fun (W1 W2 : World) (hs : W0.heap.size ≤ W1.heap.size) (g1 : W1.cell? ⟨w.heap.size, 3, none⟩ = some (.string ⟨u.toArray⟩)) (g2 : W1.cell? ⟨w.heap.size, 5, none⟩ = some (.string ⟨t.toArray⟩)) (ho : Only (fun k => k = mb7 ∨ W1.heap.size ≤ k) W1 W2) => (⟨(HSC.out W1 W2 (by omega) _ (fun k hk => by rcases hk with hk | hk <;> simp [hk]) ho _).trans g1, (HSC.out W1 W2 (by omega) _ (fun k hk => by rcases hk with hk | hk <;> simp [hk]) ho _).trans g2⟩ : W2.cell? ⟨w.heap.size, 3, none⟩ = some (.string ⟨u.toArray⟩) ∧ W2.cell? ⟨w.heap.size, 5, none⟩ = some (.string ⟨t.toArray⟩)))
  clear hW0 hb0 q1 HT0
  go_region_held3 (fun w' => w'.cell? ⟨w.heap.size, 3, none⟩ = some (.string ⟨u.toArray⟩) ∧ w'.cell? ⟨w.heap.size, 5, none⟩ = some (.string ⟨t.toArray⟩))
    (first | go_keep | (exact ⟨p0, p1⟩) | (exact ⟨n0, n1⟩))
    ((first
      | (go_at_call 23; refine (HA.out _ TL (by first | exact HT1.out | exact HT1.out.below (Below.refl _ _).drew)).mono ?_; rintro e w1 ⟨rfl, hT1, hO1⟩; have HT2 := Lib.hid hT1; have hO1' : Only (fun k => k = tb ∨ W0.heap.size ≤ k) W0 w1 := (by first | exact hO1 | exact only_undrew hO1); obtain ⟨n0, n1, nz⟩ := HX.out _ hO1'; clear hT1 hO1 hO1')
      | (go_at_call 27; refine (HB.out _ _ HT2.out).mono ?_; rintro e w2 ⟨rfl, hT2, hO2⟩; have HT3 := Lib.hid hT2; obtain ⟨p0, p1⟩ := HY.out _ _ nz n0 n1 hO2; clear hT2 hO2)))
  all_goals go_wp2_with fail
  go_ret
  exact ⟨rfl, (HEND.out _ HT3.out).2⟩
end Go.Proofs.YtbfnnlcckpabnaaGreat

/- The law's agrees: walks, ways and the next things. -/
namespace Go.Proofs.YtbfnnlcckpabnaaGreat
set_option linter.unusedSimpArgs false
set_option linter.unusedVariables false
open Go.RowKit
open Hy (Lets IsNF Eqv Le)

theorem words_ok {u v : List UInt8} (h : Hy.wordsErr [u, v] = 0) : Hy.wordErr u = 0 ∧ Hy.wordErr v = 0 := ⟨Hy.wordsErr_zero h u (by simp), Hy.wordsErr_zero h v (by simp)⟩

theorem seen_one (u : List UInt8) : SeenOk [(u, [])] [(u, true)] := by
  intro t
  unfold mlook
  by_cases h : t = u
  · subst h; simp
  · simp [h, mlook]

/-- What both searches find. -/
theorem both_reach {o : Hy.Ord} (F : Hy.Fine o) {WL : WallList} {u : List UInt8} (hz : Hy.wordErr u = 0) (isT : List UInt8 → Bool) (things : Bool) (goal : List UInt8) : ∃ xs R fuel, reachAll o 1000 (blk7 WL) (nf7 o u) 88573 [(nf7 o u, [])] [(nf7 o u, true)] = some xs ∧ Got o (blk7 WL) (nf7 o u) xs ∧
    reach7 o (blk7 WL) isT things goal fuel 0 [(nf7 o u, [])] 10 = some R ∧ R <+: xs ∧ (things = false → R = xs ∨ ∃ p ∈ R, p.1 = goal) ∧ (things = true → R = xs ∨ ∃ p ∈ R, isT p.1 = true ∧ ∀ x ∈ xs.drop R.length, p.2.length < x.2.length) := by
  have hl := (Hy.wordErr_letters hz).2
  have hN := nf7_norm F (lets_of_err hz) (by omega)
  have a1 := nf7_len F (lets_of_err hz) (by omega)
  obtain ⟨xs, h1, h2, _⟩ := way_ok (wall := blk7 WL) F (fuel := 1000) (Nat.le_refl _) a1.2 (by omega) hN.2.self
  obtain ⟨R, r1, r2, r3, r4⟩ := reach_sim (D := []) F a1.2 (by omega) isT things goal 88573 h1 (by simpa using h2) (by simpa using seen_one _) (xs.length + 1) (by omega)
  exact ⟨xs, R, xs.length + 1, h1, h2, r1, r2, r3, r4⟩

theorem near7_none {isT : List UInt8 → Bool} : ∀ {R : Places} {n : Nat} {e : List UInt8}, (near7 isT R (false, n, e)).1 = false → (near7 isT R (false, n, e)).2.2 = e
  | [], n, e, _ => rfl
  | p :: R, n, e, h => by
    rw [near7_cons] at h ⊢
    split
    · rename_i h1; rw [if_pos h1] at h; exact near7_none h
    · rename_i h1
      rw [if_neg h1] at h
      obtain ⟨f', e', h2, _⟩ := near7_down (isT := isT) (R := R) (far := p.2.length) (e := p.1)
      rw [h2] at h
      cases h

theorem near7_isT {isT : List UInt8 → Bool} : ∀ {R : Places} {f : Bool} {n : Nat} {e : List UInt8}, (f = true → isT e = true) → (near7 isT R (f, n, e)).1 = true → isT (near7 isT R (f, n, e)).2.2 = true
  | [], f, n, e, h, h1 => h h1
  | p :: R, f, n, e, h, h1 => by
    rw [near7_cons] at h1 ⊢
    split
    · rename_i h2; rw [if_pos h2] at h1; exact near7_isT h h1
    · rename_i h2
      rw [if_neg h2] at h1
      refine near7_isT (fun _ => ?_) h1
      cases hp : isT p.1 with
      | true => rfl
      | false => exact absurd (.inl hp) h2

theorem textOf_look {T : Things} {TL : ThingList} (h : TRel T TL) {t : List UInt8} (ht : (thingPlace t TL 0).2 = true) : textOf TL t = (mlook t T).getD [] := by
  obtain ⟨x, hx⟩ := (thingPlace_mem h.sorted).1 ht
  obtain ⟨d, e1, e2, e3, _⟩ := thingPlace_at (t := t) (i := 0) h.sorted
  rw [(h.look t x).2 hx]
  obtain ⟨y, hy⟩ := e3 ⟨x, hx⟩
  obtain rfl : y = x := h.uniq (List.mem_of_getElem? hy) hx
  unfold textOf
  rw [e1, Nat.zero_add, hy]
  rfl

theorem Still.of_below {w w' : World} {o : Hy.Ord} {mb wb tb mb7 : Nat} {W : Walls} {T : Things} {WL : WallList} {TL : ThingList} (h : Both w o mb wb tb mb7 W T WL TL) (hB : Below w.heap.size w w') : Still w o mb wb tb mb7 WL TL (.returned (.bool true)) w' :=
  ⟨rfl, Only.of_below hB (fun k hk => .inr hk), W, T, h.below hB⟩

set_option maxRecDepth 100000 in
set_option maxHeartbeats 4000000 in
theorem agrees_go {w : World} {o : Hy.Ord} {mb wb tb mb7 : Nat} {W : Walls} {T : Things} {WL : WallList} {TL : ThingList} (F : Hy.Fine o) (hS : Small o) (h : Both w o mb wb tb mb7 W T WL TL) (m : Int) (is : Bool) (u v t : List UInt8) (hu : u.length ≤ 140737488355328) (hv : v.length ≤ 140737488355328) :
    Calls Tryz.prog 11 #[.pointer (some ⟨mb, 0, none⟩), .pointer (some ⟨mb7, 0, none⟩), opV 2 m is u v t] w (Still w o mb wb tb mb7 WL TL) := by
  have HEND := Lib.hid (fun W1 (hB : Below w.heap.size w W1) => (Still.of_below h hB).2)
  have HASK := Lib.hid (fun W1 => law_asked (w := W1) (u := u) (v := v) (by omega) (by omega))
  by_cases hbad : Hy.wordsErr [u, v] = 0
  case neg =>
    have HGO := Lib.hid (fun W1 (hB : Below w.heap.size w W1) => walk_Go_bad F (h.below hB).rep hS u v hu hv hbad)
    have g1 : (Hy.wordsErr [u, v] != 0) = true := by rw [bne_iff_ne]; exact hbad
    generalize Hy.wordsErr [u, v] = er at *
    clear h hu hv hbad
    unfold opV str at *
    go_enter Tryz.func11, Tryz.ntmps11
    go_upto_region 8 with fail
    obtain ⟨W0, hW0⟩ : ∃ W0, w.alloc (.cells #[.int .i64 2, .int .i64 m, .bool is, .string ⟨u.toArray⟩, .string ⟨v.toArray⟩, .string ⟨t.toArray⟩] 27) = W0 := ⟨_, rfl⟩
    have hb0 : Below w.heap.size w W0 := by rw [← hW0]; exact (Below.refl _ _).alloc (Nat.le_refl _) _
    have q1 : W0.heap[w.heap.size]? = some (.cells #[.int .i64 2, .int .i64 m, .bool is, .string ⟨u.toArray⟩, .string ⟨v.toArray⟩, .string ⟨t.toArray⟩] 27 (0, 0)) := by rw [← hW0]; exact alloc_heap_new w _
    have k1 := cell_of_heap q1 3
    have k2 := cell_of_heap q1 4
    simp at k1 k2
    have hlt : w.heap.size < W0.heap.size := (Array.getElem?_eq_some_iff.1 q1).1
    have HB0 := Lib.hid hb0
    rw [hW0]
    clear hW0 hb0 q1
    go_wp2_with fail
    refine (HGO.out _ HB0.out).mono ?_
    rintro e w1 ⟨rfl, hB1⟩
    have HB1 := Lib.hid (HB0.out.trans (hB1.mono HB0.out.size))
    have l1 := ((bcell hB1).1 w.heap.size 3 hlt).trans k1
    have l2 := ((bcell hB1).1 w.heap.size 4 hlt).trans k2
    clear hB1
    go_wp2_with fail
    refine (HASK.out _).mono ?_
    rintro e w2 ⟨rfl, hB2⟩
    have HB2 := Lib.hid (HB1.out.trans (hB2.mono HB1.out.size))
    clear hB2
    go_wp2_with fail
    go_ret
    exact ⟨by simp, HEND.out _ HB2.out⟩
  case pos =>
    obtain ⟨hzu, hzv⟩ := words_ok hbad
    have hlu := (Hy.wordErr_letters hzu).2
    have hlv := (Hy.wordErr_letters hzv).2
    have hN := nf7_norm F (lets_of_err hzu) (by omega)
    have hNv := nf7_norm F (lets_of_err hzv) (by omega)
    have a1 := nf7_len F (lets_of_err hzu) (by omega)
    obtain ⟨p, hp⟩ := go_some (wall := wallIn W) F a1.2 (by omega) (lets_of_err hzv) hlv v.length (nf7 o u) (Nat.le_refl _)
    have hsame := hp
    rw [walls_same h.walls] at hsame
    have hgo := go_same F a1.2 (by omega) (lets_of_err hzv) hlv v.length hsame (Nat.le_refl _) (by simpa using hN.2.self)
    rw [Nat.sub_self, List.drop_zero] at hgo
    have HGO := Lib.hid (fun W1 (hB : Below w.heap.size w W1) => walk_Go (h.below hB).rep hS u v 1000 _ _ hbad hN.1 hNv.1 p hp)
    have HG7 := Lib.hid (fun W1 (hB : Below w.heap.size w W1) => (r07_Go F hS (h.below hB).m7 (by have := h.few.nw; omega) hN.2 (lets_of_err hzu) hlu (lets_of_err hzv) hlv).mono fun e w' hp => (show e = .returned (.agg #[str p.1, .int .i64 p.2]) ∧ Below W1.heap.size W1 w' from by
      have h1 := hp.1
      rw [show go7 o (blk7 WL) v 0 (nf7 o u) = p from hgo] at h1
      exact ⟨h1, hp.2⟩))
    rw [hbad] at HASK
    clear h hu hv hbad hp hsame hgo hN hNv a1 hlu hlv hzu hzv
    obtain ⟨pw, pn⟩ := p
    simp only at HGO HG7
    unfold opV str at *
    go_enter Tryz.func11, Tryz.ntmps11
    go_upto_region 8 with fail
    obtain ⟨W0, hW0⟩ : ∃ W0, w.alloc (.cells #[.int .i64 2, .int .i64 m, .bool is, .string ⟨u.toArray⟩, .string ⟨v.toArray⟩, .string ⟨t.toArray⟩] 27) = W0 := ⟨_, rfl⟩
    have hb0 : Below w.heap.size w W0 := by rw [← hW0]; exact (Below.refl _ _).alloc (Nat.le_refl _) _
    have q1 : W0.heap[w.heap.size]? = some (.cells #[.int .i64 2, .int .i64 m, .bool is, .string ⟨u.toArray⟩, .string ⟨v.toArray⟩, .string ⟨t.toArray⟩] 27 (0, 0)) := by rw [← hW0]; exact alloc_heap_new w _
    have k1 := cell_of_heap q1 3
    have k2 := cell_of_heap q1 4
    simp at k1 k2
    have hlt : w.heap.size < W0.heap.size := (Array.getElem?_eq_some_iff.1 q1).1
    have HB0 := Lib.hid hb0
    rw [hW0]
    clear hW0 hb0 q1
    go_wp2_with fail
    refine (HGO.out _ HB0.out).mono ?_
    rintro e w1 ⟨rfl, hB1⟩
    have HB1 := Lib.hid (HB0.out.trans (hB1.mono HB0.out.size))
    have l1 := ((bcell hB1).1 w.heap.size 3 hlt).trans k1
    have l2 := ((bcell hB1).1 w.heap.size 4 hlt).trans k2
    have hlt1 := Nat.lt_of_lt_of_le hlt hB1.size
    clear hB1
    go_wp2_with fail
    refine (HASK.out _).mono ?_
    rintro e w2 ⟨rfl, hB2⟩
    have HB2 := Lib.hid (HB1.out.trans (hB2.mono HB1.out.size))
    have n1 := ((bcell hB2).1 w.heap.size 3 hlt1).trans l1
    have n2 := ((bcell hB2).1 w.heap.size 4 hlt1).trans l2
    clear hB2
    go_wp2_with fail
    refine (HG7.out _ HB2.out).mono ?_
    rintro e w3 ⟨rfl, hB3⟩
    have HB3 := Lib.hid (HB2.out.trans (hB3.mono HB2.out.size))
    clear hB3
    go_wp2_with fail
    go_ret
    exact ⟨by simp, HEND.out _ HB3.out⟩

set_option maxRecDepth 100000 in
set_option maxHeartbeats 4000000 in
theorem agrees_way {w : World} {o : Hy.Ord} {mb wb tb mb7 : Nat} {W : Walls} {T : Things} {WL : WallList} {TL : ThingList} (F : Hy.Fine o) (hS : Small o) (h : Both w o mb wb tb mb7 W T WL TL) (m : Int) (is : Bool) (u v t : List UInt8) (hu : u.length ≤ 140737488355328) (hv : v.length ≤ 140737488355328) :
    Calls Tryz.prog 11 #[.pointer (some ⟨mb, 0, none⟩), .pointer (some ⟨mb7, 0, none⟩), opV 3 m is u v t] w (Still w o mb wb tb mb7 WL TL) := by
  have HEND := Lib.hid (fun W1 (hB : Below w.heap.size w W1) => (Still.of_below h hB).2)
  have HASK := Lib.hid (fun W1 => law_asked (w := W1) (u := u) (v := v) (by omega) (by omega))
  by_cases hbad : Hy.wordsErr [u, v] = 0
  case neg =>
    have HGO := Lib.hid (fun W1 (hB : Below w.heap.size w W1) => walk_Way_bad F (h.below hB).rep hS u v hu hv hbad)
    have g1 : (Hy.wordsErr [u, v] != 0) = true := by rw [bne_iff_ne]; exact hbad
    generalize Hy.wordsErr [u, v] = er at *
    clear h hu hv hbad
    unfold opV str at *
    go_enter Tryz.func11, Tryz.ntmps11
    go_upto_region 14 with fail
    obtain ⟨W0, hW0⟩ : ∃ W0, w.alloc (.cells #[.int .i64 3, .int .i64 m, .bool is, .string ⟨u.toArray⟩, .string ⟨v.toArray⟩, .string ⟨t.toArray⟩] 27) = W0 := ⟨_, rfl⟩
    have hb0 : Below w.heap.size w W0 := by rw [← hW0]; exact (Below.refl _ _).alloc (Nat.le_refl _) _
    have q1 : W0.heap[w.heap.size]? = some (.cells #[.int .i64 3, .int .i64 m, .bool is, .string ⟨u.toArray⟩, .string ⟨v.toArray⟩, .string ⟨t.toArray⟩] 27 (0, 0)) := by rw [← hW0]; exact alloc_heap_new w _
    have k1 := cell_of_heap q1 3
    have k2 := cell_of_heap q1 4
    simp at k1 k2
    have hlt : w.heap.size < W0.heap.size := (Array.getElem?_eq_some_iff.1 q1).1
    have HB0 := Lib.hid hb0
    rw [hW0]
    clear hW0 hb0 q1
    go_wp2_with fail
    refine (HGO.out _ HB0.out).mono ?_
    rintro e w1 ⟨rfl, hB1⟩
    have HB1 := Lib.hid (HB0.out.trans (hB1.mono HB0.out.size))
    have l1 := ((bcell hB1).1 w.heap.size 3 hlt).trans k1
    have l2 := ((bcell hB1).1 w.heap.size 4 hlt).trans k2
    clear hB1
    go_wp2_with fail
    refine (HASK.out _).mono ?_
    rintro e w2 ⟨rfl, hB2⟩
    have HB2 := Lib.hid (HB1.out.trans (hB2.mono HB1.out.size))
    clear hB2
    go_wp2_with fail
    go_ret
    exact ⟨by simp, HEND.out _ HB2.out⟩
  case pos =>
    obtain ⟨hzu, hzv⟩ := words_ok hbad
    have hlu := (Hy.wordErr_letters hzu).2
    have hlv := (Hy.wordErr_letters hzv).2
    have hN := nf7_norm F (lets_of_err hzu) (by omega)
    have hNv := nf7_norm F (lets_of_err hzv) (by omega)
    obtain ⟨xs, R, fuel, r1, r2, r3, r4, r5, _⟩ := both_reach F (WL := WL) hzu (fun t => (thingPlace t TL 0).2) false (nf7 o v)
    have hway : wayIn R (nf7 o v) = wayIn xs (nf7 o v) := way_same r4 (r5 rfl)
    have r1' := r1
    rw [show blk7 WL = wallIn W from (walls_same h.walls).symm] at r1'
    have HGO := Lib.hid (fun W1 (hB : Below w.heap.size w W1) => walk_Way (h.below hB).rep hS u v 1000 88573 _ _ hbad hN.1 hNv.1 xs r1')
    have HG7 := Lib.hid (fun W1 (hB : Below w.heap.size w W1) => r07_Way F hS (h.below hB).m7 (by have := h.few.nw; omega) (by have := h.few.nt; omega) hN.2 (lets_of_err hzu) hlu hNv.2 (lets_of_err hzv) hlv r3)
    rw [hbad] at HASK
    rw [hway] at HG7
    unfold WayPost at HGO
    clear h hu hv hbad r1 r1' r2 r3 r4 r5 hway hN hNv hlu hlv hzu hzv
    generalize wayIn xs (nf7 o v) = ans at *
    unfold opV str at *
    go_enter Tryz.func11, Tryz.ntmps11
    go_upto_region 14 with fail
    obtain ⟨W0, hW0⟩ : ∃ W0, w.alloc (.cells #[.int .i64 3, .int .i64 m, .bool is, .string ⟨u.toArray⟩, .string ⟨v.toArray⟩, .string ⟨t.toArray⟩] 27) = W0 := ⟨_, rfl⟩
    have hb0 : Below w.heap.size w W0 := by rw [← hW0]; exact (Below.refl _ _).alloc (Nat.le_refl _) _
    have q1 : W0.heap[w.heap.size]? = some (.cells #[.int .i64 3, .int .i64 m, .bool is, .string ⟨u.toArray⟩, .string ⟨v.toArray⟩, .string ⟨t.toArray⟩] 27 (0, 0)) := by rw [← hW0]; exact alloc_heap_new w _
    have k1 := cell_of_heap q1 3
    have k2 := cell_of_heap q1 4
    simp at k1 k2
    have hlt : w.heap.size < W0.heap.size := (Array.getElem?_eq_some_iff.1 q1).1
    have HB0 := Lib.hid hb0
    rw [hW0]
    clear hW0 hb0 q1
    go_wp2_with fail
    refine (HGO.out _ HB0.out).mono ?_
    rintro e w1 ⟨hB1, rfl⟩
    have HB1 := Lib.hid (HB0.out.trans (hB1.mono HB0.out.size))
    have l1 := ((bcell hB1).1 w.heap.size 3 hlt).trans k1
    have l2 := ((bcell hB1).1 w.heap.size 4 hlt).trans k2
    have hlt1 := Nat.lt_of_lt_of_le hlt hB1.size
    clear hB1
    cases ans with
    | none =>
      unfold found7 at *
      simp only at *
      go_wp2_with fail
      refine (HASK.out _).mono ?_
      rintro e w2 ⟨rfl, hB2⟩
      have HB2 := Lib.hid (HB1.out.trans (hB2.mono HB1.out.size))
      have n1 := ((bcell hB2).1 w.heap.size 3 hlt1).trans l1
      have n2 := ((bcell hB2).1 w.heap.size 4 hlt1).trans l2
      clear hB2
      go_wp2_with fail
      refine (HG7.out _ HB2.out).mono ?_
      rintro e w3 ⟨rfl, hB3⟩
      have HB3 := Lib.hid (HB2.out.trans (hB3.mono HB2.out.size))
      clear hB3
      unfold str at *
      go_wp2_with fail
      go_ret
      exact ⟨by simp, HEND.out _ (HB3.out.alloc HB3.out.size _)⟩
    | some p =>
      unfold found7 at *
      simp only at *
      go_wp2_with fail
      refine (HASK.out _).mono ?_
      rintro e w2 ⟨rfl, hB2⟩
      have HB2 := Lib.hid (HB1.out.trans (hB2.mono HB1.out.size))
      have n1 := ((bcell hB2).1 w.heap.size 3 hlt1).trans l1
      have n2 := ((bcell hB2).1 w.heap.size 4 hlt1).trans l2
      clear hB2
      go_wp2_with fail
      refine (HG7.out _ HB2.out).mono ?_
      rintro e w3 ⟨rfl, hB3⟩
      have HB3 := Lib.hid (HB2.out.trans (hB3.mono HB2.out.size))
      clear hB3
      unfold str at *
      go_wp2_with fail
      go_ret
      exact ⟨by simp, HEND.out _ (HB3.out.alloc HB3.out.size _)⟩

set_option maxRecDepth 100000 in
set_option maxHeartbeats 4000000 in
theorem agrees_near {w : World} {o : Hy.Ord} {mb wb tb mb7 : Nat} {W : Walls} {T : Things} {WL : WallList} {TL : ThingList} (F : Hy.Fine o) (hS : Small o) (h : Both w o mb wb tb mb7 W T WL TL) (m : Int) (is : Bool) (u v t : List UInt8) (hu : u.length ≤ 140737488355328) :
    Calls Tryz.prog 11 #[.pointer (some ⟨mb, 0, none⟩), .pointer (some ⟨mb7, 0, none⟩), opV 4 m is u v t] w (Still w o mb wb tb mb7 WL TL) := by
  have HEND := Lib.hid (fun W1 (hB : Below w.heap.size w W1) => (Still.of_below h hB).2)
  have HCW := Lib.hid (fun W1 => r03_CheckWord u W1 (by omega))
  by_cases hbad : Hy.wordErr u = 0
  case neg =>
    have HGO := Lib.hid (fun W1 (hB : Below w.heap.size w W1) => walk_Near_bad (h.below hB).rep hS u hu hbad)
    have g1 : (Hy.wordErr u != 0) = true := by rw [bne_iff_ne]; exact hbad
    generalize Hy.wordErr u = er at *
    clear h hu hbad
    unfold opV str at *
    go_enter Tryz.func11, Tryz.ntmps11
    go_upto_region 21 with fail
    obtain ⟨W0, hW0⟩ : ∃ W0, w.alloc (.cells #[.int .i64 4, .int .i64 m, .bool is, .string ⟨u.toArray⟩, .string ⟨v.toArray⟩, .string ⟨t.toArray⟩] 27) = W0 := ⟨_, rfl⟩
    have hb0 : Below w.heap.size w W0 := by rw [← hW0]; exact (Below.refl _ _).alloc (Nat.le_refl _) _
    have q1 : W0.heap[w.heap.size]? = some (.cells #[.int .i64 4, .int .i64 m, .bool is, .string ⟨u.toArray⟩, .string ⟨v.toArray⟩, .string ⟨t.toArray⟩] 27 (0, 0)) := by rw [← hW0]; exact alloc_heap_new w _
    have k1 := cell_of_heap q1 3
    have k2 := cell_of_heap q1 4
    simp at k1 k2
    have hlt : w.heap.size < W0.heap.size := (Array.getElem?_eq_some_iff.1 q1).1
    have HB0 := Lib.hid hb0
    rw [hW0]
    clear hW0 hb0 q1
    go_wp2_with fail
    refine (HGO.out _ HB0.out).mono ?_
    rintro e w1 ⟨rfl, hB1⟩
    have HB1 := Lib.hid (HB0.out.trans (hB1.mono HB0.out.size))
    have l1 := ((bcell hB1).1 w.heap.size 3 hlt).trans k1
    clear hB1
    go_wp2_with fail
    refine (HCW.out _).mono ?_
    rintro e w2 ⟨rfl, hB2⟩
    have HB2 := Lib.hid (HB1.out.trans (hB2.mono HB1.out.size))
    clear hB2
    go_wp2_with fail
    go_ret
    exact ⟨by simp, HEND.out _ HB2.out⟩
  case pos =>
    have hlu := (Hy.wordErr_letters hbad).2
    have hN := nf7_norm F (lets_of_err hbad) (by omega)
    have hNl := nf7_len F (lets_of_err hbad) (by omega)
    obtain ⟨xs, R, fuel, r1, r2, r3, r4, _, r5⟩ := both_reach F (WL := WL) hbad (fun t => (thingPlace t TL 0).2) true []
    have hnear : nearGo T xs (false, 0, []) = near7 (fun t => (thingPlace t TL 0).2) R (false, 0, []) := near_same (fun t => things_same h.things t) (got_lengths r2) r4 (r5 rfl) [] 0
    have hlen : ∀ p ∈ xs, p.1.length ≤ 1000 ∧ p.2.length ≤ 1000 := fun p hp => by
      obtain ⟨b1, b2, _, _⟩ := r2.each p hp
      have := b1.len
      simp only [List.length_append] at this
      omega
    have r1' := r1
    rw [show blk7 WL = wallIn W from (walls_same h.walls).symm] at r1'
    have HGO := Lib.hid (fun W1 (hB : Below w.heap.size w W1) => walk_Near (h.below hB).rep hS u 1000 88573 _ hbad hN.1 xs r1' hlen)
    have HG7 := Lib.hid (fun W1 (hB : Below w.heap.size w W1) => r07_NearThing F hS (h.below hB).m7 (by have := h.few.nw; omega) (by have := h.few.nt; omega) hN.2 (lets_of_err hbad) hlu r3)
    have h1 := near7_none (isT := fun t => (thingPlace t TL 0).2) (R := R) (n := 0) (e := [])
    have h2 := near7_isT (isT := fun t => (thingPlace t TL 0).2) (R := R) (f := false) (n := 0) (e := []) (fun h => by cases h)
    have h3 := fun t (ht : (thingPlace t TL 0).2 = true) => textOf_look h.things (t := t) ht
    unfold NearPost at HGO
    rw [hnear] at HGO
    rw [hbad] at HCW
    clear hu hbad r1 r1' r2 r3 r4 r5 hnear hN hlu hlen hNl
    generalize near7 (fun t => (thingPlace t TL 0).2) R (false, 0, []) = ans at *
    obtain ⟨f, far, e0⟩ := ans
    simp only at h1 h2 HGO
    unfold nearFound at HG7
    simp only at HG7
    unfold opV str at *
    cases f with
    | false =>
      obtain rfl := h1 rfl
      simp only [Bool.false_eq_true, if_false] at HGO HG7
      clear h1 h2 h3 h
      go_enter Tryz.func11, Tryz.ntmps11
      go_upto_region 21 with fail
      obtain ⟨W0, hW0⟩ : ∃ W0, w.alloc (.cells #[.int .i64 4, .int .i64 m, .bool is, .string ⟨u.toArray⟩, .string ⟨v.toArray⟩, .string ⟨t.toArray⟩] 27) = W0 := ⟨_, rfl⟩
      have hb0 : Below w.heap.size w W0 := by rw [← hW0]; exact (Below.refl _ _).alloc (Nat.le_refl _) _
      have q1 : W0.heap[w.heap.size]? = some (.cells #[.int .i64 4, .int .i64 m, .bool is, .string ⟨u.toArray⟩, .string ⟨v.toArray⟩, .string ⟨t.toArray⟩] 27 (0, 0)) := by rw [← hW0]; exact alloc_heap_new w _
      have k1 := cell_of_heap q1 3
      have k2 := cell_of_heap q1 4
      simp at k1 k2
      have hlt : w.heap.size < W0.heap.size := (Array.getElem?_eq_some_iff.1 q1).1
      have HB0 := Lib.hid hb0
      rw [hW0]
      clear hW0 hb0 q1
      go_wp2_with fail
      refine (HGO.out _ HB0.out).mono ?_
      rintro e w1 ⟨hB1, rfl⟩
      have HB1 := Lib.hid (HB0.out.trans (hB1.mono HB0.out.size))
      have l1 := ((bcell hB1).1 w.heap.size 3 hlt).trans k1
      have hlt1 := Nat.lt_of_lt_of_le hlt hB1.size
      clear hB1
      go_wp2_with fail
      refine (HCW.out _).mono ?_
      rintro e w2 ⟨rfl, hB2⟩
      have HB2 := Lib.hid (HB1.out.trans (hB2.mono HB1.out.size))
      have n1 := ((bcell hB2).1 w.heap.size 3 hlt1).trans l1
      clear hB2
      go_wp2_with fail
      refine (HG7.out _ HB2.out).mono ?_
      rintro e w3 ⟨rfl, hB3⟩
      have HB3 := Lib.hid (HB2.out.trans (hB3.mono HB2.out.size))
      clear hB3
      go_wp2_with fail
      go_ret
      exact ⟨by simp, HEND.out _ (HB3.out.alloc HB3.out.size _)⟩
    | true =>
      have h4 := h3 e0 (h2 rfl)
      simp only [if_true] at HGO HG7
      rw [h4] at HG7
      generalize (mlook e0 T).getD [] = tx at *
      clear h1 h2 h3 h4 h
      go_enter Tryz.func11, Tryz.ntmps11
      go_upto_region 21 with fail
      obtain ⟨W0, hW0⟩ : ∃ W0, w.alloc (.cells #[.int .i64 4, .int .i64 m, .bool is, .string ⟨u.toArray⟩, .string ⟨v.toArray⟩, .string ⟨t.toArray⟩] 27) = W0 := ⟨_, rfl⟩
      have hb0 : Below w.heap.size w W0 := by rw [← hW0]; exact (Below.refl _ _).alloc (Nat.le_refl _) _
      have q1 : W0.heap[w.heap.size]? = some (.cells #[.int .i64 4, .int .i64 m, .bool is, .string ⟨u.toArray⟩, .string ⟨v.toArray⟩, .string ⟨t.toArray⟩] 27 (0, 0)) := by rw [← hW0]; exact alloc_heap_new w _
      have k1 := cell_of_heap q1 3
      have k2 := cell_of_heap q1 4
      simp at k1 k2
      have hlt : w.heap.size < W0.heap.size := (Array.getElem?_eq_some_iff.1 q1).1
      have HB0 := Lib.hid hb0
      rw [hW0]
      clear hW0 hb0 q1
      go_wp2_with fail
      refine (HGO.out _ HB0.out).mono ?_
      rintro e w1 ⟨hB1, rfl⟩
      have HB1 := Lib.hid (HB0.out.trans (hB1.mono HB0.out.size))
      have l1 := ((bcell hB1).1 w.heap.size 3 hlt).trans k1
      have hlt1 := Nat.lt_of_lt_of_le hlt hB1.size
      clear hB1
      go_wp2_with fail
      refine (HCW.out _).mono ?_
      rintro e w2 ⟨rfl, hB2⟩
      have HB2 := Lib.hid (HB1.out.trans (hB2.mono HB1.out.size))
      have n1 := ((bcell hB2).1 w.heap.size 3 hlt1).trans l1
      clear hB2
      go_wp2_with fail
      refine (HG7.out _ HB2.out).mono ?_
      rintro e w3 ⟨rfl, hB3⟩
      have HB3 := Lib.hid (HB2.out.trans (hB3.mono HB2.out.size))
      clear hB3
      go_wp2_with fail
      go_ret
      exact ⟨by simp, HEND.out _ (HB3.out.alloc HB3.out.size _)⟩
end Go.Proofs.YtbfnnlcckpabnaaGreat

/- The law's agrees: the images; agrees whole. -/
namespace Go.Proofs.YtbfnnlcckpabnaaGreat
set_option linter.unusedSimpArgs false
set_option linter.unusedVariables false
open Go.RowKit
open Hy (Lets IsNF Eqv Le)

theorem WRel.nodup {W : Walls} {WL : WallList} (h : WRel W WL) : (W.map (·.1)).Nodup := by
  refine h.perm.nodup_iff.2 (h.sorted.imp ?_)
  rintro a b hab rfl
  rw [before_irrefl] at hab
  cases hab

theorem TRel.nodup {T : Things} {TL : ThingList} (h : TRel T TL) : (T.map (·.1)).Nodup := by
  refine (h.perm.map _).nodup_iff.2 (List.pairwise_map.2 (h.sorted.imp ?_))
  intro a b hab he
  rw [he, ahead_irrefl] at hab
  cases hab

theorem strict_of {α : Type} {lt : α → α → Bool} (ht : ∀ {a b : α}, a ≠ b → lt a b = true ∨ lt b a = true) {L : List α} (h : L.Pairwise (fun x y => lt y x = false)) (hn : L.Nodup) : L.Pairwise (fun x y => lt x y = true) := by
  refine (h.and hn).imp ?_
  rintro a b ⟨h1, h2⟩
  rcases ht h2 with h3 | h3
  · exact h3
  · rw [h1] at h3; cases h3

theorem flatMap_same {α β : Type} {f g : α → List β} : ∀ (l : List α), (∀ a ∈ l, f a = g a) → l.flatMap f = l.flatMap g
  | [], _ => rfl
  | a :: l, h => by rw [List.flatMap_cons, List.flatMap_cons, h a List.mem_cons_self, flatMap_same l fun b hb => h b (List.mem_cons_of_mem _ hb)]

/-- The images are the same. -/
theorem image_same {o : Hy.Ord} {W : Walls} {T : Things} {WL : WallList} {TL : ThingList} (hW : WRel W WL) (hT : TRel T TL) {L : WallList} {LT : List (List UInt8)} (h1 : L.Perm (W.map (·.1))) (h2 : L.Pairwise (fun x y => before y x = false)) (h3 : LT.Perm (T.map (·.1))) (h4 : LT.Pairwise (fun x y => aheadW y x = false)) :
    imageK o W.length T.length L LT T = imageOf o WL TL := by
  have s1 := strict_of (lt := before) before_total h2 (h1.nodup_iff.2 hW.nodup)
  have s2 := strict_of (lt := aheadW) ahead_total h4 (h3.nodup_iff.2 hT.nodup)
  have e1 : L = WL := perm_sorted (r := fun x y => before x y = true) (fun a b x y => by have := before_trans x y; rw [before_irrefl] at this; cases this) (h1.trans hW.perm) s1 hW.sorted
  have e2 : LT = TL.map (·.1) := perm_sorted (r := fun x y => aheadW x y = true) (fun a b x y => by have := ahead_trans x y; rw [ahead_irrefl] at this; cases this) (h3.trans (hT.perm.map _)) s2 (List.pairwise_map.2 hT.sorted)
  subst e1 e2
  have e3 : (TL.map (·.1)).flatMap (fun t => thingImg (t, (mlook t T).getD [])) = TL.flatMap thingImg := by
    rw [List.flatMap_map]
    refine flatMap_same _ ?_
    rintro ⟨t, x⟩ hp
    simp only [(hT.look t x).2 hp, Option.getD_some]
  unfold imageK imageOf
  rw [e3, hW.length, hT.perm.length_eq]

theorem Both.image {w : World} {o : Hy.Ord} {mb wb tb mb7 : Nat} {W : Walls} {T : Things} {WL : WallList} {TL : ThingList} (hS : Small o) (h : Both w o mb wb tb mb7 W T WL TL) :
    Calls Tryz.prog 13 #[.pointer (some ⟨mb, 0, none⟩)] w fun e w' => ∃ v g, e = .returned v ∧ IS w w' g v (imageOf o WL TL) := by
  have hwl := h.walls.length
  have htl := h.things.perm.length_eq
  refine (walk_Image h.rep hS h.walls.nodup h.things.nodup (by have := h.few.nw; omega) (by have := h.few.nt; omega) (fun p hp => h.few.fw p.1 (h.walls.perm.mem_iff.1 (List.mem_map_of_mem hp))) (fun p hp => h.few.ft p (h.things.perm.mem_iff.1 hp))).mono ?_
  rintro e w' ⟨v, g, L, LT, rfl, p1, p2, p3, p4, hI⟩
  rw [image_same h.walls h.things p1 p2 p3 p4] at hI
  exact ⟨v, g, rfl, hI⟩

theorem Both.image7 {w : World} {o : Hy.Ord} {mb wb tb mb7 : Nat} {W : Walls} {T : Things} {WL : WallList} {TL : ThingList} (hS : Small o) (h : Both w o mb wb tb mb7 W T WL TL) :
    Calls Tryz.prog 14 #[.pointer (some ⟨mb7, 0, none⟩)] w fun e w' => ∃ v g, e = .returned v ∧ IS w w' g v (imageOf o WL TL) :=
  r07_Image hS h.m7 (by have := h.few.nw; omega) (by have := h.few.nt; omega) h.few.fw h.few.ft

set_option maxRecDepth 100000 in
set_option maxHeartbeats 4000000 in
theorem agrees_image {w : World} {o : Hy.Ord} {mb wb tb mb7 : Nat} {W : Walls} {T : Things} {WL : WallList} {TL : ThingList} (hS : Small o) (h : Both w o mb wb tb mb7 W T WL TL) (kind m : Int) (hk : ¬ kind = 0 ∧ ¬ kind = 1 ∧ ¬ kind = 2 ∧ ¬ kind = 3 ∧ ¬ kind = 4) (is : Bool) (u v t : List UInt8) :
    Calls Tryz.prog 11 #[.pointer (some ⟨mb, 0, none⟩), .pointer (some ⟨mb7, 0, none⟩), opV kind m is u v t] w (Still w o mb wb tb mb7 WL TL) := by
  have HEND := Lib.hid (fun W1 (hB : Below w.heap.size w W1) => (Still.of_below h hB).2)
  have HIW := Lib.hid (fun W1 (hB : Below w.heap.size w W1) => (h.below hB).image hS)
  have HI7 := Lib.hid (fun W1 (hB : Below w.heap.size w W1) => (h.below hB).image7 hS)
  have HEQ := Lib.hid (fun W1 (v1 v2 : Value) (h1 : BSlice W1.heap.size W1 v1 (imageOf o WL TL)) (h2 : BSlice W1.heap.size W1 v2 (imageOf o WL TL)) => law_equal h1 h2)
  obtain ⟨k0, k1, k2, k3, k4⟩ := hk
  generalize imageOf o WL TL = im at *
  clear h
  unfold opV str at *
  go_enter Tryz.func11, Tryz.ntmps11
  go_upto_region 27 with fail
  obtain ⟨W0, hW0⟩ : ∃ W0, w.alloc (.cells #[.int .i64 kind, .int .i64 m, .bool is, .string ⟨u.toArray⟩, .string ⟨v.toArray⟩, .string ⟨t.toArray⟩] 27) = W0 := ⟨_, rfl⟩
  have hb0 : Below w.heap.size w W0 := by rw [← hW0]; exact (Below.refl _ _).alloc (Nat.le_refl _) _
  have HB0 := Lib.hid hb0
  rw [hW0]
  clear hW0 hb0
  go_wp2_with fail
  refine (HIW.out _ HB0.out).mono ?_
  rintro e w1 ⟨v1, g1, rfl, hI1⟩
  have HB1 := Lib.hid (HB0.out.trans (hI1.below.mono HB0.out.size))
  have HI1 := Lib.hid hI1
  clear hI1
  go_wp2_with fail
  refine (HI7.out _ HB1.out).mono ?_
  rintro e w2 ⟨v2, g2, rfl, hI2⟩
  have HB2 := Lib.hid (HB1.out.trans (hI2.below.mono HB1.out.size))
  have HI2 := Lib.hid hI2.bytes
  have HI1' := Lib.hid (HI1.out.bytes.grow hI2.below)
  clear hI2
  go_wp2_with fail
  refine (HEQ.out _ _ _ HI1'.out HI2.out).mono ?_
  rintro e w3 ⟨rfl, hB3⟩
  have HB3 := Lib.hid (HB2.out.trans (hB3.mono HB2.out.size))
  clear hB3
  go_wp2_with fail
  go_ret
  exact ⟨by simp, HEND.out _ HB3.out⟩

/-- The walls and things behind a call. -/
def nextOf (o : Hy.Ord) (WL : WallList) (TL : ThingList) (kind m : Int) (is : Bool) (u t : List UInt8) : WallList × ThingList :=
  if kind = 0 then ((wallA7 o WL u m is).2, TL) else if kind = 1 then (WL, (thingA7 o TL u t).2) else (WL, TL)

/-- One call of both maps. -/
theorem law_agrees {w : World} {o : Hy.Ord} {mb wb tb mb7 : Nat} {W : Walls} {T : Things} {WL : WallList} {TL : ThingList} (F : Hy.Fine o) (hS : Small o) (h : Both w o mb wb tb mb7 W T WL TL) (kind m : Int) (is : Bool) (u v t : List UInt8)
    (hu : u.length ≤ 140737488355328) (hv : v.length ≤ 140737488355328) (ht : t.length ≤ 140737488355328) :
    Calls Tryz.prog 11 #[.pointer (some ⟨mb, 0, none⟩), .pointer (some ⟨mb7, 0, none⟩), opV kind m is u v t] w (Still w o mb wb tb mb7 (nextOf o WL TL kind m is u t).1 (nextOf o WL TL kind m is u t).2) := by
  unfold nextOf
  by_cases k0 : kind = 0
  · subst k0; rw [if_pos rfl]; exact agrees_wall F hS h m is u v t hu
  by_cases k1 : kind = 1
  · subst k1; rw [if_neg (by decide), if_pos rfl]; exact agrees_put F hS h m is u v t hu ht
  rw [if_neg k0, if_neg k1]
  by_cases k2 : kind = 2
  · subst k2; exact agrees_go F hS h m is u v t hu hv
  by_cases k3 : kind = 3
  · subst k3; exact agrees_way F hS h m is u v t hu hv
  by_cases k4 : kind = 4
  · subst k4; exact agrees_near F hS h m is u v t hu
  exact agrees_image hS h kind m ⟨k0, k1, k2, k3, k4⟩ is u v t
end Go.Proofs.YtbfnnlcckpabnaaGreat
