/- walk.reached and the iterator that it returns. -/
import Derived.RangeFuncNested
import Derived.RangeFuncCalls
import Derived.OwnWalkIn
import Derived.LoopIn
import Derived.Test.YtbfnnlcckpabnaaGreatQueue
import Derived.Test.YtbfnnlcckpabnaaGreatBfs
import Derived.Test.YtbfnnlcckpabnaaGreatWk3
import Derived.Test.YtbfnnlcckpabnaaGreatIter
namespace Go.Proofs.YtbfnnlcckpabnaaGreat
set_option linter.unusedSimpArgs false
set_option linter.unusedVariables false
open Go.RowKit

def encPlace (p : Word × Word) : Value := .agg #[.string ⟨p.1.toArray⟩, .string ⟨p.2.toArray⟩]
def placeCells (q : Places) : List Value := q.flatMap (fun p => [.string ⟨p.1.toArray⟩, .string ⟨p.2.toArray⟩])

attribute [local go_sem] Oper.semAt_some

theorem MRep.of_heap {w w' : World} {o : Hy.Ord} {mb wb tb : Nat} {W : Walls} {T : Things} (h : MRep w o mb wb tb W T) (h1 : w'.heap[mb]? = w.heap[mb]?) (h2 : w'.heap[wb]? = w.heap[wb]?) (h3 : w'.heap[tb]? = w.heap[tb]?) : MRep w' o mb wb tb W T :=
  ⟨h1.trans h.cells, h.walls.of_heap h2, h.things.of_heap h3, h.apart, h.ok⟩

theorem infoPlace : (Tryz.prog.info? 123).map (fun i => (i.zero, i.size, i.bytes)) = some (some (.agg #[.string ⟨#[]⟩, .string ⟨#[]⟩]), 2, 32) := by kernel_rfl

def ReachOwn (xb yb mb wb tb : Nat) (k : Nat) : Prop := k = xb ∨ k = yb ∨ k = mb ∨ k = wb ∨ k = tb

def ReachInv (J : Nat → (Nat → Prop) → World → Prop) (C : Nat → Prop) (W : World) (o : Hy.Ord) (fuel : Nat) (wall : Word → Int → Bool) (su : Word) (xs : Places) (m : Nat) (v : Value) (wr : World) : Prop :=
  ∃ (i : Nat) (C' : Nat → Prop) (q : Places) (s : Seen) (g steps : Nat), i + m = xs.length ∧ J i C' wr ∧ (∀ k, C' k → Mine C W.heap.size k ∧ k < wr.heap.size) ∧ Only (Mine C W.heap.size) W wr ∧
    ¬ C' g ∧ ¬ C' (W.heap.size + 1) ∧ g ≠ W.heap.size + 1 ∧ W.heap.size ≤ g ∧ QRow wr g 2 v q.length (placeCells q) ∧ MapAt wr str Value.bool (W.heap.size + 1) s ∧
    reachAll o fuel wall su steps q s = some (xs.drop i)

theorem reach_next {J : Nat → (Nat → Prop) → World → Prop} {Own : Nat → Prop} (hJ : Stable Own J) {C C' C'' : Nat → Prop} {W wr W3 W5 : World} {ob : Obj} {o : Hy.Ord} {fuel : Nat} {wall : Word → Int → Bool} {su : Word} {xs : Places} {i m' g g' steps : Nat} {v : Value} {q' : Places} {s' : Seen}
    (hC' : ∀ k, C' k → Mine C W.heap.size k ∧ k < wr.heap.size) (hOn : Only (Mine C W.heap.size) W wr) (hg : ¬ C' g) (hsb : ¬ C' (W.heap.size + 1)) (hgs : g ≠ W.heap.size + 1) (hgW : W.heap.size ≤ g) (hgl : g < wr.heap.size) (hsl : W.heap.size + 1 < wr.heap.size)
    (hO3 : Only (Mine C' (wr.alloc ob).heap.size) (wr.alloc ob) W3) (hC'' : ∀ k, C'' k → Mine C' (wr.alloc ob).heap.size k ∧ k < W3.heap.size) (hJ3 : J (i + 1) C'' W3)
    (hO5 : Only (fun k => k = g ∨ k = W.heap.size + 1 ∨ W3.heap.size ≤ k) W3 W5) (hQ : QRow W5 g' 2 v q'.length (placeCells q')) (hg' : g' = g ∨ W3.heap.size ≤ g') (hS : MapAt W5 str Value.bool (W.heap.size + 1) s')
    (hR : reachAll o fuel wall su steps q' s' = some (xs.drop (i + 1))) (hm : i + 1 + m' = xs.length) (hOwn : ∀ k, Own k → k ≠ g ∧ k ≠ W.heap.size + 1 ∧ k < W3.heap.size) : ReachInv J C W o fuel wall su xs m' v W5 := by
  have h1 := hOn.size
  have h2 := hO3.size
  have h3 := hO5.size
  simp only [World.size_alloc] at h2 hC''
  have hng : ∀ k, C'' k → k ≠ g ∧ k ≠ W.heap.size + 1 ∧ k < W3.heap.size := fun k hk => by
    obtain ⟨h4, h5⟩ := hC'' k hk
    refine ⟨?_, ?_, h5⟩
    · rintro rfl
      rcases h4 with h4 | h4
      · exact hg h4
      · omega
    · rintro rfl
      rcases h4 with h4 | h4
      · exact hsb h4
      · omega
  have hmine : ∀ k, Mine C' (wr.heap.size + 1) k → Mine C W.heap.size k := by
    rintro k (h | h)
    · exact (hC' k h).1
    · exact .inr (by omega)
  refine ⟨i + 1, C'', q', s', g', steps, hm, hJ (i + 1) C'' W3 W5 hJ3 (fun k hk => hO5.block k (by have h9 : k ≠ g ∧ k ≠ W.heap.size + 1 ∧ k < W3.heap.size := hk.elim (hng k) (hOwn k); omega)) h3, fun k hk => ⟨hmine k (hC'' k hk).1, Nat.lt_of_lt_of_le (hng k hk).2.2 h3⟩, ?_, ?_, fun hk => (hng _ hk).2.1 rfl, ?_, ?_, hQ, hS, hR⟩
  · refine ((hOn.alloc (fun k hk => .inr hk) ob).trans (hO3.mono (by simpa using hmine))).trans (hO5.mono ?_)
    rintro k (rfl | rfl | h)
    · exact .inr hgW
    · exact .inr (by omega)
    · exact .inr (by omega)
  · intro hk
    have := hng _ hk
    omega
  · omega
  · omega

set_option maxRecDepth 100000 in
set_option maxHeartbeats 2000000 in
theorem reached_iter {w : World} {o : Hy.Ord} {mb wb tb : Nat} {Ws : Walls} {T : Things} (h : MRep w o mb wb tb Ws T) (ho : Small o) (xb yb : Nat) (su : Word) (hx : w.cell? ⟨xb, 0, none⟩ = some (.string ⟨su.toArray⟩)) (hy : w.cell? ⟨yb, 0, none⟩ = some (.pointer (some ⟨mb, 0, none⟩)))
    (fuel steps : Nat) (xs : Places) (hr : reachAll o fuel (wallIn Ws) su steps [(su, [])] [(su, true)] = some xs) :
    Iter Tryz.prog 79 #[.pointer (some ⟨xb, 0, none⟩), .pointer (some ⟨yb, 0, none⟩)] (fun p => #[encPlace p]) xs (ReachOwn xb yb mb wb tb) w := by
  intro l J Jx C W hW hOwn hJ hJx hY h0 hC
  refine callsIn_wide.2 ?_
  have hX : ∀ W' : World, W'.heap[xb]? = W.heap[xb]? → W'.cell? ⟨xb, 0, none⟩ = some (.string ⟨su.toArray⟩) := fun W' hh => (World.cell?_of_block (w := w) (a := ⟨xb, 0, none⟩) (hh.trans (hOwn xb (.inl rfl)).2.1)).trans hx
  have hYb : ∀ W' : World, W'.heap[yb]? = W.heap[yb]? → W'.cell? ⟨yb, 0, none⟩ = some (.pointer (some ⟨mb, 0, none⟩)) := fun W' hh => (World.cell?_of_block (w := w) (a := ⟨yb, 0, none⟩) (hh.trans (hOwn yb (.inr (.inl rfl))).2.1)).trans hy
  have cx := hX W rfl
  have hxl : xb < W.heap.size := Nat.lt_of_lt_of_le (hOwn xb (.inl rfl)).1 hW
  have hyl : yb < W.heap.size := Nat.lt_of_lt_of_le (hOwn yb (.inr (.inl rfl))).1 hW
  have HX := Lib.hid hX; clear hX
  have HYB := Lib.hid hYb; clear hYb
  have HOWN := Lib.hid hOwn; clear hOwn
  have HJ := Lib.hid hJ; have HJX := Lib.hid hJx; have HY := Lib.hid hY; have HJ0 := Lib.hid h0; have HC := Lib.hid hC
  have HR := Lib.hid hr; have HM := Lib.hid h; clear hJ hJx hY h0 hC hr h hx hy
  obtain ⟨ob, hput, hseen⟩ := (mapAt_new (W.alloc (.cells #[.string ⟨su.toArray⟩, .string ⟨#[]⟩] 123)) str Value.bool).put keys_str Tryz.underlying160 su true
  simp only [World.size_alloc, str] at hput
  have hmm := @run_makeMap Tryz.prog
  have HSEEN := Lib.hid hseen; clear hseen
  have hsz0 : ∀ ob : Obj, xb < W.heap.size + 1 := fun _ => by omega
  go_enter Tryz.func79, Tryz.ntmps79
  refine (wpIn_wide (n := 0)).1 ?_
  gi_wp2_with fail
  have hinv : ReachInv J C W o fuel (wallIn Ws) su xs xs.length (.slice (some ⟨W.heap.size, 0, none⟩) 1 1) (((W.alloc (.cells #[.string ⟨su.toArray⟩, .string ⟨#[]⟩] 123)).alloc (.map #[] 0)).putObj (W.heap.size + 1) ob) := by
    have hCs := HC.out
    have hO : Only (Mine C W.heap.size) W (((W.alloc (.cells #[.string ⟨su.toArray⟩, .string ⟨#[]⟩] 123)).alloc (.map #[] 0)).putObj (W.heap.size + 1) ob) :=
      ((((Only.refl _ W).alloc (fun k hk => .inr hk) _).alloc (fun k hk => .inr hk) _).putObj (.inr (by omega)) ob)
    have hsz := hO.size
    refine ⟨0, C, [(su, [])], [(su, true)], W.heap.size, steps, by simp, HJ.out 0 C W _ HJ0.out (fun k hk => ?_) hO.size, fun k hk => ⟨.inl hk, Nat.lt_of_lt_of_le (hCs k hk) hsz⟩, hO, fun hk => by have := hCs _ hk; omega, fun hk => by have := hCs _ hk; omega, by omega, Nat.le_refl _, ?_, ?_, by simpa using HR.out⟩
    · have := hk.elim (hCs k) (fun h => Nat.lt_of_lt_of_le (HOWN.out k h).1 hW)
      rw [World.putObj_heap_other (by omega), Below.heap_alloc _ _ _ (by simp; omega), Below.heap_alloc _ _ _ this]
    · refine QRow.of_heap (W := W.alloc (.cells #[.string ⟨su.toArray⟩, .string ⟨#[]⟩] 123)) (QRow.new W _ 1 2 123 (by simp [placeCells]) (by simp [maxLen])) ?_ (by simp [World.putObj])
      rw [World.putObj_heap_other (by omega), Below.heap_alloc _ _ _ (by simp)]
    · have := HSEEN.out
      simpa [World.size_alloc, mput] using this
  have HINV := Lib.hid hinv; clear hinv HSEEN HJ0 HR
  gi_loopw [4] (fun v wr => ∃ m, ReachInv J C W o fuel (wallIn Ws) su xs m v wr) (fun v wr => leastOf (fun m => ReachInv J C W o fuel (wallIn Ws) su xs m v wr))
  case atStart => exact ⟨_, HINV.out⟩
  case round =>
    obtain ⟨m0, hm0⟩ := hrel
    obtain ⟨m, hm, hleast⟩ := leastOf_spec (p := fun m => ReachInv J C W o fuel (wallIn Ws) su xs m _ _) hm0
    obtain ⟨i, C', q, s, g, steps', him, hJi, hC', hOn, hg, hsb, hgs, hgW, hQ, hS, hR⟩ := hm
    clear hm0 hmm HINV
    have HJI := Lib.hid hJi; have HCP := Lib.hid hC'; have HON := Lib.hid hOn; have HG := Lib.hid hg; have HSB := Lib.hid hsb; have HGS := Lib.hid hgs; have HGW := Lib.hid hgW; have HIM := Lib.hid him
    have HS := Lib.hid hS; have HRR := Lib.hid hR; have HLE := Lib.hid hleast; have HQ := Lib.hid hQ
    clear hJi hC' hOn hg hsb hgs hgW hS hR hleast him
    cases q with
    | nil =>
      obtain ⟨off, cap, rfl, -⟩ := hQ
      simp only [List.length_nil] at *
      gi_wp2_with fail
      go_end0
      refine ⟨⟨_, rfl⟩, HON.out, C', HCP.out, .inl ?_⟩
      have h1 := reachAll_nil HRR.out
      have h2 := congrArg List.length h1
      simp at h2
      have h3 := HIM.out
      have h4 : i = xs.length := by omega
      rw [← h4]; exact HJI.out
    | cons p q =>
      obtain ⟨t, way⟩ := p
      have hQ2 : QRow wr g 2 _ (q.length + 1) ([.string ⟨t.toArray⟩, .string ⟨way.toArray⟩] ++ placeCells q) := hQ
      obtain ⟨v', hslice, hQt⟩ := hQ2.tail rfl 159 123 Tryz.underlying159 (fun W' => by kernel_rfl)
      obtain ⟨off, cap, rfl, hnc, -, -, hcell, -, hgl⟩ := hQ2
      have c0 : wr.cell? ⟨g, off, none⟩ = some (.string ⟨t.toArray⟩) := hcell 0 _ rfl
      have c1 : wr.cell? ⟨g, off + 1, none⟩ = some (.string ⟨way.toArray⟩) := hcell 1 _ rfl
      have HQT := Lib.hid hQt; have HGL := Lib.hid hgl
      clear hcell hQt hgl hQ hnc
      simp only [List.length_cons] at *
      obtain ⟨m1, l', rfl, hl', hcase⟩ := reachAll_cons HRR.out
      have hxi : xs[i]? = some (t, way) := by
        have := congrArg (fun l => l[0]?) hl'
        simpa using this
      have hdrop : xs.drop (i + 1) = l' := by
        have := congrArg (fun l => l.drop 1) hl'
        simpa [List.drop_drop] using this
      have hpb : (wr.alloc (.cells #[.string ⟨t.toArray⟩, .string ⟨way.toArray⟩] 123)).heap[wr.heap.size]? = some (.cells #[.string ⟨t.toArray⟩, .string ⟨way.toArray⟩] 123) := World.alloc_heap_new wr _
      have hJ1 := HJ.out i C' wr (wr.alloc (.cells #[.string ⟨t.toArray⟩, .string ⟨way.toArray⟩] 123)) HJI.out (fun k hk => Below.heap_alloc _ _ _ (hk.elim (fun h => (HCP.out k h).2) (fun h => by have h1 := (HOWN.out k h).1; have h2 := HON.out.size; omega))) (by simp)
      obtain ⟨fn, tmps, assign, body, hyl, hRd⟩ := HY.out i C' (t, way) _ hxi hJ1 (fun k hk => by have := (HCP.out k hk).2; simp; omega)
      have HCASE := Lib.hid hcase; have HXI := Lib.hid hxi; have HDROP := Lib.hid hdrop; have HPB := Lib.hid hpb
      have HRD := Lib.hid hRd
      clear hcase hxi hdrop hpb hJ1 hl' hRd
      simp only [encPlace] at hyl
      gi_wp2_with fail
      refine ⟨rfl, HRD.out.mono ?_⟩
      rintro e W3 ⟨hO3, C'', hC'', hend⟩
      have hkeep : ∀ k, k ≤ wr.heap.size → ¬ C' k → W3.heap[k]? = (wr.alloc (.cells #[.string ⟨t.toArray⟩, .string ⟨way.toArray⟩] 123)).heap[k]? := fun k hk hn => hO3.block k (by
        rintro (h | h)
        · exact hn h
        · simp at h; omega)
      have hpbC : ¬ C' wr.heap.size := fun h => by have := (HCP.out _ h).2; omega
      have hPB3 := (hkeep _ (Nat.le_refl _) hpbC).trans HPB.out
      have p0 : W3.cell? ⟨wr.heap.size, 0, none⟩ = some (.string ⟨t.toArray⟩) := cell_of_heap hPB3 0
      have p1 : W3.cell? ⟨wr.heap.size, 1, none⟩ = some (.string ⟨way.toArray⟩) := cell_of_heap hPB3 1
      have hsbl := HS.out.lt
      have hold : ∀ k, k < wr.heap.size → ¬ C' k → W3.heap[k]? = wr.heap[k]? := fun k hk hn => (hkeep k (by omega) hn).trans (Below.heap_alloc _ _ _ hk)
      have hs3 := hO3.size
      simp only [World.size_alloc] at hs3
      have hQ3 : QRow W3 g 2 v' q.length (placeCells q) := HQT.out.of_heap (hold g HGL.out HG.out) (by omega)
      have hS3 : MapAt W3 str Value.bool (W.heap.size + 1) s := HS.out.of_heap (hold _ hsbl HSB.out)
      have hil := (List.getElem?_eq_some_iff.1 HXI.out).1
      have hWr := HON.out.size
      have hOW : ∀ k, ReachOwn xb yb mb wb tb k → W3.heap[k]? = W.heap[k]? ∧ k < W.heap.size := fun k hk => by
        obtain ⟨h1, h2, h3⟩ := HOWN.out k hk
        have h4 : k < W.heap.size := by omega
        have h5 : ¬ Mine C W.heap.size k := by
          rintro (h | h)
          · exact h3 h
          · omega
        exact ⟨(hold k (by omega) (fun h => h5 (HCP.out k h).1)).trans (HON.out.block k h5), h4⟩
      have HSBL := Lib.hid hsbl; clear hsbl
      have HOLD := Lib.hid hold; clear hold
      have HS3Z := Lib.hid hs3; clear hs3
      have HQ3 := Lib.hid hQ3; clear hQ3
      have HS3 := Lib.hid hS3; clear hS3
      have HIL := Lib.hid hil; clear hil
      have HOW := Lib.hid hOW; clear hOW
      have HWR := Lib.hid hWr; clear hWr
      have HO3 := Lib.hid hO3; have HC2 := Lib.hid hC''; have HPB3 := Lib.hid hPB3; have HKEEP := Lib.hid hkeep
      clear hO3 hC'' hPB3 hkeep hpbC hyl HRD HPB
      rcases hend with ⟨rfl, hJ3⟩ | ⟨rfl, hJx3⟩
      · have HJ3 := Lib.hid hJ3; clear hJ3
        have hnext : ∀ (W5 : World) (g' steps : Nat) (v : Value) (q' : Places) (s' : Seen), Only (fun k => k = g ∨ k = W.heap.size + 1 ∨ W3.heap.size ≤ k) W3 W5 → QRow W5 g' 2 v q'.length (placeCells q') → (g' = g ∨ W3.heap.size ≤ g') → MapAt W5 str Value.bool (W.heap.size + 1) s' →
            reachAll o fuel (wallIn Ws) su steps q' s' = some l' → ReachInv J C W o fuel (wallIn Ws) su xs (m - 1) v W5 := fun W5 g' st v q' s' hO5 hQ hg' hS hR =>
          reach_next HJ.out HCP.out HON.out HG.out HSB.out HGS.out HGW.out HGL.out HSBL.out HO3.out HC2.out HJ3.out hO5 hQ hg' hS (by rw [HDROP.out]; exact hR) (by have := HIM.out; have := HIL.out; omega) (fun k hk => by have h1 := (HOW.out k hk).2; have h2 := HGW.out; have h3 := HS3Z.out; have h4 := HWR.out; omega)
        have HNEXT := Lib.hid hnext; clear hnext
        have hmm : m - 1 < m := by have := HIM.out; have := HIL.out; omega
        have HMM := Lib.hid hmm; clear hmm
        have hcase := HCASE.out
        by_cases h10 : way.length = 10
        · rcases hcase with ⟨_, hR⟩ | ⟨hn, _⟩
          · have HRX := Lib.hid hR; clear hR
            gi_wp2_with fail
            have hfin := HNEXT.out W3 g _ v' q s (Only.refl _ _) HQ3.out (.inl rfl) HS3.out HRX.out
            go_roundw
            case rel => exact ⟨_, hfin⟩
            case measure => rw [HLE.out]; exact Nat.lt_of_le_of_lt (leastOf_le hfin) HMM.out
          · exact absurd h10 hn
        · rcases hcase with ⟨hn, _⟩ | ⟨_, qf, sf, hD, hR⟩
          · exact absurd hn h10
          · have HRX := Lib.hid hR; clear hR
            have HD := Lib.hid hD; clear hD
            clear cx c0 c1 hslice hput
            have hfact : ∀ W' : World, Only (fun k => k = g ∨ k = W.heap.size + 1 ∨ W3.heap.size ≤ k) W3 W' → MRep W' o mb wb tb Ws T ∧ W'.cell? ⟨xb, 0, none⟩ = some (.string ⟨su.toArray⟩) ∧ W'.cell? ⟨yb, 0, none⟩ = some (.pointer (some ⟨mb, 0, none⟩)) ∧
                W'.cell? ⟨wr.heap.size, 0, none⟩ = some (.string ⟨t.toArray⟩) ∧ W'.cell? ⟨wr.heap.size, 1, none⟩ = some (.string ⟨way.toArray⟩) := fun W' hO => by
              have e1 := HS3Z.out
              have e2 := HGW.out
              have e3 := HGL.out
              have e4 := HSBL.out
              have e5 := HWR.out
              have hw : ∀ k, ReachOwn xb yb mb wb tb k → W'.heap[k]? = W.heap[k]? := fun k hk => by
                obtain ⟨h1, h2⟩ := HOW.out k hk
                exact (hO.block k (by omega)).trans h1
              have hp : W'.heap[wr.heap.size]? = _ := (hO.block wr.heap.size (by omega)).trans HPB3.out
              have hw2 : ∀ k, ReachOwn xb yb mb wb tb k → W'.heap[k]? = w.heap[k]? := fun k hk => (hw k hk).trans (HOWN.out k hk).2.1
              exact ⟨HM.out.of_heap (hw2 mb (.inr (.inr (.inl rfl)))) (hw2 wb (.inr (.inr (.inr (.inl rfl))))) (hw2 tb (.inr (.inr (.inr (.inr rfl))))), HX.out W' (hw xb (.inl rfl)), HYB.out W' (hw yb (.inr (.inl rfl))), cell_of_heap hp 0, cell_of_heap hp 1⟩
            have HFACT := Lib.hid hfact; clear hfact
            have hpbl : wr.heap.size < W3.heap.size := by have := HS3Z.out; omega
            have hyl3 : yb < W3.heap.size := by have := HS3Z.out; have := HWR.out; omega
            have hml3 : mb < W3.heap.size := by have := HS3Z.out; have := HWR.out; have := (HOW.out mb (.inr (.inr (.inl rfl)))).2; omega
            have HPBL := Lib.hid hpbl; clear hpbl
            have HYL := Lib.hid hyl3; clear hyl3
            have HML := Lib.hid hml3; clear hml3
            clear p0 hxl hyl hsz0
            gi_wp2_with fail
            clear p1
            have hb10 : ((way.length : Int) == 10) = false := by simp; omega
            rw [hb10]
            clear hb10
            refine wpIn_wide.2 ?_
            obtain ⟨wo, hwo⟩ : ∃ wo, wo = wr := ⟨wr, rfl⟩
            subst hwo
            go_loopw [4, 32] (fun v c wi => ∃ (r : Nat) (q' : Places) (s' : Seen) (g' : Nat), r ≤ 3 ∧ c = .int .i64 ((3 - r : Nat) : Int) ∧ Hid (reachDirs o fuel (wallIn Ws) su t way r q' s' = some (qf, sf)) ∧ Hid (QRow wi g' 2 v q'.length (placeCells q')) ∧ Hid (g' = g ∨ W3.heap.size ≤ g') ∧
              Hid (MapAt wi str Value.bool (W.heap.size + 1) s') ∧ Hid (Only (fun k => k = g ∨ k = W.heap.size + 1 ∨ W3.heap.size ≤ k) W3 wi)) (fun _ c _ => 3 - (intOf c).toNat)
            case atStart => exact ⟨3, q, s, g, Nat.le_refl _, rfl, HD, HQ3, Lib.hid (.inl rfl), HS3, Lib.hid (Only.refl _ _)⟩
            case round =>
              obtain ⟨wi, hwi⟩ : ∃ wi, wi = wr := ⟨wr, rfl⟩
              subst hwi
              obtain ⟨r, q', s', g', hr, rfl, HDr, HQr, HGr, HSr, HOr⟩ := hrel
              cases r with
              | zero =>
                have hd := HDr.out
                unfold reachDirs at hd
                cases hd
                go_wp2_with fail
                have hfin := HNEXT.out _ g' _ _ qf sf HOr.out HQr.out HGr.out HSr.out HRX.out
                go_roundw
                case rel => exact ⟨_, hfin⟩
                case measure => rw [HLE.out]; exact Nat.lt_of_le_of_lt (leastOf_le hfin) HMM.out
              | succ r =>
                obtain ⟨hz, hql, nx, hn, hcase⟩ := reachDirs_succ HDr.out
                obtain ⟨k, hk⟩ : ∃ k, k = 2 - r := ⟨_, rfl⟩
                have hk3 : k < 3 := by omega
                rw [← hk] at hz hn hcase
                rw [show 3 - (r + 1) = k by omega]
                have HK := Lib.hid hk; clear hk
                have HZ := Lib.hid hz; have HN := Lib.hid hn; have HCASE2 := Lib.hid hcase; have HQL := Lib.hid hql
                clear hz hn hcase hql
                obtain ⟨hMi, cxi, cyi, cp0, cp1⟩ := HFACT.out _ HOr.out
                have HMi := Lib.hid hMi; clear hMi
                have hpbi := Nat.lt_of_lt_of_le HPBL.out HOr.out.size
                have hlet := fun W' => walk_letter k (by omega) W'
                unfold str Hy.letter at hlet
                have hwl : way.length ≤ 60 := by
                  have := (Hy.wordErr_letters (Hy.wordsErr_zero HZ.out (way ++ Hy.letter k) (by simp))).2
                  simp at this; omega
                have HLET := Lib.hid hlet; clear hlet
                clear cxi cyi cp0
                have hadd : ∀ W' : World, (Op.stringOp .add ⟨way.toArray⟩ ⟨#[UInt8.ofNat k]⟩).run Tryz.prog W' = .ok (.string (⟨way.toArray⟩ ++ ⟨#[UInt8.ofNat k]⟩)) W' := fun W' => by
                  have : ((way.length : Int) + 1) ≤ 2 ^ 63 - 1 := by omega
                  have h2 : IntKind.i64.max = 2 ^ 63 - 1 := rfl
                  simp only [Op.stringOp, ByteArray.size, List.size_toArray, h2]
                  rw [if_neg (by simp; omega)]
                  rfl
                go_wp2_with fail
                go_cut [8] (fun v wx => v = .string ⟨(way ++ Hy.letter k).toArray⟩ ∧ Hid (Below wi.heap.size wi wx))
                case first =>
                  go_region_held3 (fun w' => w'.cell? ⟨wo.heap.size, 1, none⟩ = some (.string ⟨way.toArray⟩))
                    (first | go_keep | (rw [hc4 _ _ (by simpa using hpbi)]; simpa using cp1))
                    ((go_at_call 53; refine (HLET.out _).mono ?_; rintro e w4 ⟨rfl, hB4⟩; obtain ⟨hc4, hf4⟩ := bcell hB4; have hb4 : Below wi.heap.size wi w4 := below_undrew hB4; have HB4 := Lib.hid hb4; clear hb4 hB4))
                  all_goals go_wp2_with fail
                  all_goals go_meet
                  case rel => exact ⟨by rw [show (#[UInt8.ofNat k] : Array UInt8) = (Hy.letter k).toArray from rfl, bytes_add], HB4⟩
                case rest =>
                  obtain ⟨rfl, HB5⟩ := hcut
                  have hOc : Only (fun k => k = g ∨ k = W.heap.size + 1 ∨ W3.heap.size ≤ k) W3 wc := HOr.out.trans (Only.of_below HB5.out (fun k hk => .inr (.inr (Nat.le_trans HOr.out.size hk))))
                  obtain ⟨hMc, cxc, cyc, -, -⟩ := HFACT.out _ hOc
                  have hto := walk_to hMc ho su (way ++ Hy.letter k) HZ.out fuel nx HN.out
                  have HTO := Lib.hid hto; clear hto hMc hOc cp1
                  unfold str at HTO
                  go_wp2_with fail
                  refine HTO.out.mono ?_
                  rintro e w6 ⟨rfl, hB6⟩
                  have hB6' : Below wi.heap.size wi w6 := HB5.out.trans (hB6.mono HB5.out.size)
                  have HB6 := Lib.hid hB6'; clear hB6 hB6' HTO HLET cxc cyc
                  have hO6 : Only (fun k => k = g ∨ k = W.heap.size + 1 ∨ W3.heap.size ≤ k) W3 w6 := HOr.out.trans (Only.of_below HB6.out (fun k hk => .inr (.inr (Nat.le_trans HOr.out.size hk))))
                  go_wp2_with fail
                  obtain ⟨hM6, -, cy6, cp6, -⟩ := HFACT.out _ hO6
                  have cw6 : w6.cell? ⟨mb, 4, none⟩ = some (.map (some wb)) := cell_of_heap hM6.cells 4
                  have hS6 : MapAt w6 str Value.bool (W.heap.size + 1) s' := HSr.out.of_heap (HB6.out.block _ HSr.out.lt)
                  have hyl6 := Nat.lt_of_lt_of_le HYL.out hO6.size
                  have hml6 := Nat.lt_of_lt_of_le HML.out hO6.size
                  have hpb6 := Nat.lt_of_lt_of_le HPBL.out hO6.size
                  have hlk := fun n => (hS6.of_heap (w' := w6.drewN n) (by simp)).look keys_str Tryz.underlying160 nx (zero_bool (w6.drewN n)) false
                  have hlk0 := hS6.look keys_str Tryz.underlying160 nx (zero_bool w6) false
                  have hlk1 := (hS6.of_heap (w' := w6.drew) rfl).look keys_str Tryz.underlying160 nx (zero_bool w6.drew) false
                  have hv : ∀ x : Option Bool, ((x.map Value.bool).getD (.bool false)) = .bool (x.getD false) := fun x => by cases x <;> rfl
                  simp only [Bool.false_eq_true, if_false, hv] at hlk hlk0 hlk1
                  unfold str at hlk hlk0 hlk1
                  clear hv
                  have hcase2 := HCASE2.out
                  obtain ⟨wl, hwl⟩ : ∃ wl, wl = wallIn Ws (Hy.nearOf t nx) (k : Int) := ⟨_, rfl⟩
                  rw [← hwl] at hcase2
                  generalize hsv : (mlook nx s').getD false = sv at *
                  have HWL := Lib.hid hwl; clear hwl hsv
                  have HCASE3 := Lib.hid hcase2; clear hcase2 HCASE2
                  have HM6 := Lib.hid hM6; clear hM6
                  have HS6 := Lib.hid hS6; clear hS6
                  have HO6 := Lib.hid hO6; clear hO6
                  cases sv with
                  | true =>
                    clear cy6 cp6 cw6 hyl6 hml6 hpb6
                    go_quiet (fail)
                    go_wp2_with fail
                    have hD2 : reachDirs o fuel (wallIn Ws) su t way r q' s' = some (qf, sf) := by
                      rcases HCASE3.out with ⟨⟨h1, _⟩, _⟩ | ⟨_, h2⟩
                      · cases h1
                      · exact h2
                    have HD2 := Lib.hid hD2
                    go_roundw
                    case rel => exact ⟨r, q', s', g', by omega, by have := HK.out; rw [show 3 - r = k + 1 by omega]; rfl, HD2, Lib.hid (HQr.out.of_heap (by simpa using HB6.out.block g' (by obtain ⟨_, _, _, _, _, _, _, _, h⟩ := HQr.out; exact h)) (by simpa using HB6.out.size)), HGr, Lib.hid (HS6.out.of_heap (by simp)), Lib.hid (HO6.out.drewN _)⟩
                    case measure => simp [intOf]; omega
                  | false =>
                    have hside := fun W' => walk_side t nx (k : Int) W'
                    unfold str encEdge at hside
                    obtain ⟨nr, hnr⟩ : ∃ nr, nr = Hy.nearOf t nx := ⟨_, rfl⟩
                    rw [show (if nx.length < t.length then nx else t) = nr from hnr.symm] at hside
                    have HSIDE := Lib.hid hside; clear hside
                    rw [← hnr] at HWL
                    have HNR := Lib.hid hnr; clear hnr
                    go_cut [60] (fun v wx => v = .bool (!wl) ∧ Hid (Below wi.heap.size wi wx))
                    case first =>
                      go_region_held3 (fun w' => w'.cell? ⟨mb, 4, none⟩ = some (.map (some wb)) ∧ w'.cell? ⟨yb, 0, none⟩ = some (.pointer (some ⟨mb, 0, none⟩)) ∧ w'.cell? ⟨wo.heap.size, 0, none⟩ = some (.string ⟨t.toArray⟩))
                        (first | go_keep | exact ⟨by rw [hc4 _ _ (by simpa using hml6)]; simpa using cw6, by rw [hc4 _ _ (by simpa using hyl6)]; simpa using cy6, by rw [hc4 _ _ (by simpa using hpb6)]; simpa using cp6⟩ | (rw [hc4 _ _ (by simpa using hml6)]; simpa using cw6) | (rw [hc4 _ _ (by simpa using hyl6)]; simpa using cy6) | (rw [hc4 _ _ (by simpa using hpb6)]; simpa using cp6))
                        ((go_at_call 51; refine (HSIDE.out _).mono ?_; rintro e w4 ⟨rfl, hB4⟩; obtain ⟨hc4, hf4⟩ := bcell hB4; have hb4 : Below wi.heap.size wi w4 := HB6.out.trans ((below_undrew hB4).mono HB6.out.size); have hlkw := look_edge (HM6.out.grow (below_undrew hB4)) nr (k : Int); rw [← HWL.out] at hlkw; have HB4 := Lib.hid hb4; clear hb4 hB4))
                      all_goals go_wp2_with fail
                      all_goals go_meet
                      case rel => exact ⟨rfl, HB4⟩
                    case rest =>
                      obtain ⟨rfl, HB7⟩ := hcut
                      clear hlk hlk0 hlk1 cy6 cp6 cw6 hyl6 hml6 hpb6 HSIDE
                      have hO7 : Only (fun k => k = g ∨ k = W.heap.size + 1 ∨ W3.heap.size ≤ k) W3 wc := HOr.out.trans (Only.of_below HB7.out (fun k hk => .inr (.inr (Nat.le_trans HOr.out.size hk))))
                      have HO7 := Lib.hid hO7; clear hO7
                      have hS7 : MapAt wc str Value.bool (W.heap.size + 1) s' := HSr.out.of_heap (HB7.out.block _ HSr.out.lt)
                      have hgl7 : g' < wi.heap.size := by obtain ⟨_, _, _, _, _, _, _, _, h⟩ := HQr.out; exact h
                      have hQ7 : QRow wc g' 2 _ q'.length (placeCells q') := HQr.out.of_heap (HB7.out.block g' hgl7) HB7.out.size
                      have HS7 := Lib.hid hS7; clear hS7
                      have HQ7 := Lib.hid hQ7; clear hQ7 hgl7
                      cases wl with
                      | true =>
                        go_wp2_with fail
                        have hD2 : reachDirs o fuel (wallIn Ws) su t way r q' s' = some (qf, sf) := by
                          rcases HCASE3.out with ⟨⟨_, h1⟩, _⟩ | ⟨_, h2⟩
                          · cases h1
                          · exact h2
                        have HD2 := Lib.hid hD2
                        go_roundw
                        case rel => exact ⟨r, q', s', g', by omega, by have := HK.out; rw [show 3 - r = k + 1 by omega]; rfl, HD2, HQ7, HGr, HS7, HO7⟩
                        case measure => simp [intOf]; omega
                      | false =>
                        have hD2 : reachDirs o fuel (wallIn Ws) su t way r (q' ++ [(nx, way ++ Hy.letter k)]) (mput nx true s') = some (qf, sf) := by
                          rcases HCASE3.out with ⟨_, h2⟩ | ⟨h1, _⟩
                          · exact h2
                          · exact absurd ⟨rfl, rfl⟩ h1
                        have HD2 := Lib.hid hD2; clear hD2
                        obtain ⟨ob2, hput2, hS8⟩ := HS7.out.put keys_str Tryz.underlying160 nx true
                        have HS8 := Lib.hid hS8; clear hS8
                        unfold str at hput2
                        have hsl3 : W.heap.size + 1 < W3.heap.size := by have := HSBL.out; have := HS3Z.out; omega
                        have hgne : g' ≠ W.heap.size + 1 := by
                          rcases HGr.out with h | h
                          · rw [h]; exact HGS.out
                          · omega
                        have hQ9 := fun ob => (HQ7.out.of_heap (W' := wc.putObj (W.heap.size + 1) ob2) (World.putObj_heap_other (Ne.symm hgne).symm) (by simp [World.putObj])).of_heap (W' := (wc.putObj (W.heap.size + 1) ob2).alloc ob) (Below.heap_alloc _ _ _ (by obtain ⟨_, _, _, _, _, _, _, _, h⟩ := HQ7.out; simpa [World.putObj] using h)) (by simp)
                        obtain ⟨i0, hi0, hz0, hz1, hz2⟩ := info_parts infoPlace
                        have hql := HQL.out
                        clear hsl3 hgne
                        go_wp2_with (at_builtin; refine wpList_append_queue rfl _ _ 159 rfl rfl (hQ9 _) 123 i0 (.agg #[.string ⟨#[]⟩, .string ⟨#[]⟩]) 32 Tryz.underlying159 hi0 hz0 hz1 hz2 rfl (by decide) ⟨wc.heap.size, 0, none⟩ 1 1 [.string ⟨nx.toArray⟩, .string ⟨(way ++ Hy.letter k).toArray⟩] rfl rfl (by decide) ?c1 ?c2 ?c3 ?c4 ?_)
                        case c2 => first | exact ⟨rfl, rfl⟩ | (intro u hu; simp at hu; rcases hu with rfl | rfl <;> rfl)
                        case c3 => unfold maxLen; omega
                        case c4 => omega
                        intro v9 w9 g9 hQ10 hO9 hg9
                        have hpc : placeCells (q' ++ [(nx, way ++ Hy.letter k)]) = placeCells q' ++ [.string ⟨nx.toArray⟩, .string ⟨(way ++ Hy.letter k).toArray⟩] := by simp [placeCells]
                        have hO10 : Only (fun k => k = g ∨ k = W.heap.size + 1 ∨ W3.heap.size ≤ k) W3 w9 := by
                          have hz := HO7.out.size
                          refine ((HO7.out.putObj (.inr (.inl rfl)) ob2).alloc (fun k hk => .inr (.inr (by simpa using hk))) _).trans (hO9.mono ?_)
                          rintro k (rfl | hk)
                          · rcases HGr.out with h | h
                            · exact .inl h
                            · exact .inr (.inr h)
                          · (try simp [World.putObj] at hk); exact .inr (.inr (by omega))
                        have hg10 : g9 = g ∨ W3.heap.size ≤ g9 := by
                          have hz := HO7.out.size
                          rcases hg9 with h | h
                          · rw [h]; exact HGr.out
                          · (try simp [World.putObj] at h); exact .inr (by omega)
                        have hS9 : MapAt w9 str Value.bool (W.heap.size + 1) (mput nx true s') := by
                          have hl8 := HS8.out.lt
                          refine HS8.out.of_heap ((hO9.block _ ?_).trans (Below.heap_alloc _ _ _ hl8))
                          rintro (h | h)
                          · rcases HGr.out with h' | h'
                            · exact HGS.out (by rw [← h', ← h])
                            · have := HSBL.out; have := HS3Z.out; omega
                          · (try simp [World.putObj] at h hl8); omega
                        rw [← hpc] at hQ10
                        have hQ11 : QRow w9 g9 2 v9 (q' ++ [(nx, way ++ Hy.letter k)]).length (placeCells (q' ++ [(nx, way ++ Hy.letter k)])) := by rw [List.length_append]; exact hQ10
                        have HQ10 := Lib.hid hQ11; have HO10 := Lib.hid hO10; have HG10 := Lib.hid hg10; have HS9 := Lib.hid hS9
                        clear hQ10 hQ11 hO10 hg10 hS9 hO9 hg9 hpc hQ9 hput2
                        go_wp2_with fail
                        go_roundw
                        case rel => exact ⟨r, q' ++ [(nx, way ++ Hy.letter k)], mput nx true s', g9, by omega, by have := HK.out; rw [show 3 - r = k + 1 by omega]; rfl, HD2, HQ10, HG10, HS9, HO10⟩
                        case measure => simp [intOf]; omega
      · gi_wp2_with fail
        refine bodyPost_ret (results_none rfl _ _ _) rfl ?_
        have hO3 := HO3.out
        refine ⟨⟨_, rfl⟩, (HON.out.alloc (fun k hk => .inr hk) _).trans (hO3.mono ?_), C'', fun k hk => ⟨?_, (HC2.out k hk).2⟩, .inr ⟨i + 1, by have := HIL.out; omega, hJx3⟩⟩
        · rintro k (h | h)
          · exact (HCP.out k h).1
          · have := HWR.out; simp at h; exact .inr (by omega)
        · rcases (HC2.out k hk).1 with h | h
          · exact (HCP.out k h).1
          · have := HWR.out; simp at h; exact .inr (by omega)
end Go.Proofs.YtbfnnlcckpabnaaGreat
