/- walk.reached and walk.Way. -/
import Derived.BigRegionIn
import Derived.Test.YtbfnnlcckpabnaaGreatReach
namespace Go.Proofs.YtbfnnlcckpabnaaGreat
set_option linter.unusedSimpArgs false
set_option linter.unusedVariables false
open Go.RowKit

theorem post_marks0 {P : Program} {fn : Func} {a : Act} {w : World} {v : Value} {R : Ending → World → Prop} (hr : (results fn a.tmps).run P w = .ok v w) (hd : a.defers = []) (hR : R (.returned v) w) : bodyPostM Fence.wide 0 P fn R .ret a w := by
  show LeavesInM Fence.wide 0 P fn a.tmps R a.defers .returning w
  rw [hd]
  exact ⟨v, hr, hR⟩

theorem post_marks1 {P : Program} {fn : Func} {a : Act} {w : World} {v : Value} {D : Nat} {R : Ending → World → Prop} (hd : a.defers = [{ target := .collected D, args := #[] }]) (hK : w.heap[D]? = some (.deferred (some [])))
    (hr : (results fn a.tmps).run P (w.putObj D (.deferred none)) = .ok v (w.putObj D (.deferred none))) (hR : R (.returned v) (w.putObj D (.deferred none))) : bodyPostM Fence.wide 0 P fn R .ret a w := by
  show LeavesInM Fence.wide 0 P fn a.tmps R a.defers .returning w
  rw [hd]
  exact ⟨by simp, .inl ⟨D, _, rfl, run_takeDeferred hK, v, hr, hR⟩⟩

theorem calls_of_marks {P : Program} {f : FuncId} {fn : Func} {c : Code} {args : Array Value} {w : World} {R : Ending → World → Prop} (hf : P.funcs[f]? = some fn) (hb : fn.body = some c)
    (h : c.wp P (bodyPostM Fence.wide 0 P fn R) { tmps := args ++ Array.replicate (fn.ntmps - args.size) undef, defers := [] } w) : Calls P f args w R :=
  (callsIn_wide (n := 0)).1 (callsIn_of_wp_marks hf hb trivial (wpIn_wide.2 h))

set_option maxRecDepth 100000 in
set_option maxHeartbeats 1000000 in
theorem walk_reached (mb : Nat) (su : Word) (w : World) :
    Calls Tryz.prog 54 #[.pointer (some ⟨mb, 0, none⟩), .string ⟨su.toArray⟩] w fun e w' =>
      e = .returned (.func (.func 79) #[] #[.pointer (some ⟨w.heap.size + 1, 0, none⟩), .pointer (some ⟨w.heap.size, 0, none⟩)]) ∧ Below w.heap.size w w' ∧ w'.heap.size = w.heap.size + 2 ∧
        w'.cell? ⟨w.heap.size + 1, 0, none⟩ = some (.string ⟨su.toArray⟩) ∧ w'.cell? ⟨w.heap.size, 0, none⟩ = some (.pointer (some ⟨mb, 0, none⟩)) := by
  go_enter Tryz.func54, Tryz.ntmps54
  go_wp2_with fail
  go_ret
  refine ⟨rfl, ((Below.refl _ _).alloc (Nat.le_refl _) _).alloc (by simp) _, by simp, ?_, ?_⟩
  · have := cell_of_heap (World.alloc_heap_new (w.alloc (.cells #[.pointer (some ⟨mb, 0, none⟩)] 28)) (.cells #[.string ⟨su.toArray⟩] 9)) 0
    rw [World.size_alloc] at this
    exact this
  · exact (World.cell?_alloc_lt _ _ _ (by simp)).trans (cell_of_heap (World.alloc_heap_new w (.cells #[.pointer (some ⟨mb, 0, none⟩)] 28)) 0)

theorem find_at {α : Type} {p : α → Bool} : ∀ {xs : List α} {i : Nat} {x : α}, xs[i]? = some x → p x = true → (∀ (j : Nat) (y : α), j < i → xs[j]? = some y → p y = false) → xs.find? p = some x
  | a :: xs, 0, x, hx, hp, _ => by
    simp at hx
    subst hx
    simp [List.find?, hp]
  | a :: xs, i + 1, x, hx, hp, hb => by
    have h0 := hb 0 a (by omega) rfl
    simp only [List.find?, h0]
    exact find_at (xs := xs) (i := i) (by simpa using hx) hp (fun j y hj hy => hb (j + 1) y (by omega) (by simpa using hy))

theorem way_end {Wf : World} {D ra rb : Nat} {tm : Array Value} {x : Word} {y : Int} {t1 t2 : TypeId} {R : Ending → World → Prop} (hK : Wf.heap[D]? = some (.deferred (some []))) (h6 : tm[6]? = some (.pointer (some ⟨ra, 0, none⟩)) ∧ tm[7]? = some (.pointer (some ⟨rb, 0, none⟩)))
    (ha : Wf.heap[ra]? = some (.cells #[.string ⟨x.toArray⟩] t1)) (hb : Wf.heap[rb]? = some (.cells #[.int .i64 y] t2))
    (hR : R (.returned (.tuple #[.string ⟨x.toArray⟩, .int .i64 y])) (Wf.putObj D (.deferred none))) : bodyPostM Fence.wide 0 Tryz.prog Tryz.f22 R .ret { tmps := tm, defers := [{ target := .collected D, args := #[] }] } Wf := by
  have n1 : ra ≠ D := by rintro rfl; rw [ha] at hK; cases hK
  have n2 : rb ≠ D := by rintro rfl; rw [hb] at hK; cases hK
  have c1 := cell_of_heap ((World.putObj_heap_other (w := Wf) (o := .deferred none) n1).trans ha) 0
  have c2 := cell_of_heap ((World.putObj_heap_other (w := Wf) (o := .deferred none) n2).trans hb) 0
  refine post_marks1 rfl hK ?_ hR
  simp only [List.getElem?_toArray, List.getElem?_cons_zero] at c1 c2
  simp [results, Tryz.results22, go_sem, h6.1, h6.2, c1, c2]

/-- The way to a tile among the places that are reached. -/
def wayIn (xs : Places) (goal : Word) : Option Word := (xs.find? (fun p => p.1 == goal)).map (·.2)

def WayPost (xs : Places) (goal : Word) (w : World) (e : Ending) (w' : World) : Prop :=
  Below w.heap.size w w' ∧ e = .returned (.tuple (match wayIn xs goal with | some p => #[.string ⟨p.toArray⟩, .int .i64 0] | none => #[.string ⟨#[]⟩, .int .i64 3]))

attribute [local go_sem] Oper.semAt_some

set_option maxRecDepth 100000 in
set_option maxHeartbeats 2000000 in
theorem walk_Way {w : World} {o : Hy.Ord} {mb wb tb : Nat} {W : Walls} {T : Things} (h : MRep w o mb wb tb W T) (ho : Small o) (u v : Word) (fuel steps : Nat) (nu nv : Word) (hz : Hy.wordsErr [u, v] = 0) (hnu : Hy.norm o fuel u = some nu) (hnv : Hy.norm o fuel v = some nv)
    (xs : Places) (hr : reachAll o fuel (wallIn W) nu steps [(nu, [])] [(nu, true)] = some xs) :
    Calls Tryz.prog 22 #[.pointer (some ⟨mb, 0, none⟩), str u, str v] w (WayPost xs nv w) := by
  have hlu : u.length ≤ 60 := (Hy.wordErr_letters (Hy.wordsErr_zero hz u (by simp))).2
  have hlv : v.length ≤ 60 := (Hy.wordErr_letters (Hy.wordsErr_zero hz v (by simp))).2
  have HCALL := Lib.hid (fun W' (hb : MRep W' o mb wb tb W T) sv hs => walk_normals hb ho sv [u, v] hs (by simp) (by simp) (by simp; omega) fuel [nu, nv] rfl (by
    intro k hk _
    simp at hk
    obtain rfl | rfl : k = 0 ∨ k = 1 := by omega
    · exact hnu
    · exact hnv))
  have HGROW := Lib.hid (fun W' (hb : Below w.heap.size w W') => h.grow hb)
  have HM := Lib.hid h; have HR := Lib.hid hr; have HZ := Lib.hid hz
  clear hlu hlv hnu hnv h hr hz
  unfold str at *
  refine calls_of_marks Tryz.func22 rfl ?_
  simp only [Tryz.ntmps22, List.size_toArray, List.length_cons, List.length_nil, Nat.reduceAdd, Nat.reduceSub, Array.replicate_succ, Array.replicate_zero, List.push_toArray, List.append_toArray, List.nil_append, List.cons_append]
  go_wp2_with fail
  have hB0 : Below w.heap.size w (((w.alloc (.cells #[.string ⟨#[]⟩] 9)).alloc (.cells #[.int .i64 0] 29)).alloc (.cells #[.string ⟨u.toArray⟩, .string ⟨v.toArray⟩] 9)) :=
    (((Below.refl _ _).alloc (Nat.le_refl _) _).alloc (by simp) _).alloc (by simp; omega) _
  have hnew := World.alloc_heap_new ((w.alloc (.cells #[.string ⟨#[]⟩] 9)).alloc (.cells #[.int .i64 0] 29)) (.cells #[.string ⟨u.toArray⟩, .string ⟨v.toArray⟩] 9)
  rw [World.size_alloc, World.size_alloc] at hnew
  refine (HCALL.out _ (HGROW.out _ hB0) _ ⟨w.heap.size + 1 + 1, 2, rfl, by simp, ?_⟩).mono ?_
  · intro k hk
    simp at hk
    obtain rfl | rfl : k = 0 ∨ k = 1 := by omega
    · exact cell_of_heap hnew 0
    · exact cell_of_heap hnew 1
  rintro e w1 ⟨hB, hb⟩
  rw [if_pos HZ.out] at hb
  obtain ⟨sv, rfl, g, cap, rfl, hg, hc⟩ := hb
  clear HCALL
  have hB1 : Below w.heap.size w w1 := hB0.trans (hB.mono (by simp; omega))
  have hra : w1.heap[w.heap.size]? = some (.cells #[.string ⟨#[]⟩] 9) :=
    (hB.block _ (by simp; omega)).trans ((Below.heap_alloc _ _ _ (by simp; omega)).trans ((Below.heap_alloc _ _ _ (by simp)).trans (World.alloc_heap_new w _)))
  have hrb : w1.heap[w.heap.size + 1]? = some (.cells #[.int .i64 0] 29) := by
    refine (hB.block _ (by simp)).trans ((Below.heap_alloc _ _ _ (by simp)).trans ?_)
    have := World.alloc_heap_new (w.alloc (.cells #[.string ⟨#[]⟩] 9)) (.cells #[.int .i64 0] 29)
    rw [World.size_alloc] at this
    exact this
  have hs1 : w.heap.size + 3 ≤ w1.heap.size := by have := hB.size; simp at this; omega
  have hcell0 := hc 0 (by simp)
  have hcell1 := hc 1 (by simp)
  simp only [List.getElem_cons_zero, List.getElem_cons_succ, List.length_cons, List.length_nil] at hcell0 hcell1 ⊢
  unfold str at hcell0 hcell1
  have HB1 := Lib.hid hB1; have HRA := Lib.hid hra; have HRB := Lib.hid hrb; have HS1 := Lib.hid hs1; have HG := Lib.hid hg
  have hga := fun ob : Obj => (World.cell?_alloc_lt w1 ob ⟨g, 0, none⟩ hg).trans hcell0
  have HC0 := Lib.hid hcell0; have HC1 := Lib.hid hcell1
  clear hB1 hra hrb hs1 hg hB hB0 hc hcell0 hcell1
  go_wp2_with fail
  refine (walk_reached mb nu _).mono ?_
  rintro e w2 ⟨rfl, hB2, hs2, hxb, hyb⟩
  clear hga
  simp only [World.size_alloc] at hs2 hxb hyb ⊢
  have HB2 := Lib.hid hB2; have HS2 := Lib.hid hs2; have HXB := Lib.hid hxb; have HYB := Lib.hid hyb
  clear hB2 hs2 hxb hyb
  go_wp2_with fail
  have hB02 : Below w.heap.size w w2 := HB1.out.trans ((((Below.refl _ w1).alloc (Nat.le_refl _) _).trans (HB2.out.mono (by simp))).mono HB1.out.size)
  have hM2 := HGROW.out w2 hB02
  have hsame : ∀ k, k < w1.heap.size → w2.heap[k]? = w1.heap[k]? := fun k hk => (HB2.out.block k (by simp; omega)).trans (Below.heap_alloc _ _ _ hk)
  have heb : w2.heap[w1.heap.size]? = some (.cells #[.slice (some ⟨g, 0, none⟩) 2 cap] 81) := (HB2.out.block _ (by simp)).trans (World.alloc_heap_new w1 _)
  have hra2 := (hsame _ (by have := HS1.out; omega)).trans HRA.out
  have hrb2 := (hsame _ (by have := HS1.out; omega)).trans HRB.out
  have hgo := hsame g HG.out
  have hlm := HM.out.lt
  have hs1 := HS1.out
  have hgne : g ≠ mb ∧ g ≠ wb ∧ g ≠ tb := by
    have h1 := HGROW.out w1 HB1.out
    have h0 := HC0.out
    refine ⟨?_, ?_, ?_⟩
    · rintro rfl
      rw [cell_of_heap h1.cells 0] at h0
      simp [mapCells] at h0
    · rintro rfl
      obtain ⟨es, ck, h2, _⟩ := h1.walls
      simp [World.cell?, h2] at h0
    · rintro rfl
      obtain ⟨es, ck, h2, _⟩ := h1.things
      simp [World.cell?, h2] at h0
  have hgr : g ≠ w.heap.size ∧ g ≠ w.heap.size + 1 := by
    have h0 := HC1.out
    refine ⟨?_, ?_⟩
    · rintro rfl
      rw [cell_of_heap HRA.out 1] at h0
      simp at h0
    · rintro rfl
      rw [cell_of_heap HRB.out 1] at h0
      simp at h0
  obtain ⟨C0, hC0⟩ : ∃ C0 : Nat → Prop, C0 = fun k => k = w.heap.size ∨ k = w.heap.size + 1 ∨ k = w1.heap.size ∨ k = g := ⟨_, rfl⟩
  have hc0 : ∀ k, C0 k ↔ (k = w.heap.size ∨ k = w.heap.size + 1 ∨ k = w1.heap.size ∨ k = g) := fun k => by rw [hC0]
  refine wp_range (gf := 79) (lb := #[.pointer (some ⟨w1.heap.size + 1 + 1, 0, none⟩), .pointer (some ⟨w1.heap.size + 1, 0, none⟩)]) rfl (fun args w => by simp [go_sem]) (encs := fun p => #[encPlace p]) (xs := xs)
    (reached_iter hM2 ho _ _ nu HXB.out HYB.out fuel steps xs HR.out) (Nat.le_refl _) (fun _ => rfl)
    (fun i C W' => (∀ k, C k ↔ C0 k) ∧ (∀ k, C0 k → W'.heap[k]? = w2.heap[k]?) ∧ ∀ (j : Nat) (p : Word × Word), j < i → xs[j]? = some p → (p.1 == nv) = false)
    (fun c i C W' => c = .ret ∧ (∀ k, C k ↔ C0 k) ∧ ∃ p, wayIn xs nv = some p ∧ W'.heap[w.heap.size]? = some (.cells #[.string ⟨p.toArray⟩] 9) ∧ W'.heap[w.heap.size + 1]? = some (.cells #[.int .i64 0] 29) ∧ W'.heap[w1.heap.size]? = w2.heap[w1.heap.size]? ∧ W'.heap[g]? = w2.heap[g]?)
    ?_ ?_ C0 ?_ ?_ ?_ ?_ ?_ ?_
  · rintro i C W' W'' ⟨h1, h2, h3⟩ hs _
    exact ⟨h1, fun k hk => (hs k (.inl ((h1 k).2 hk))).trans (h2 k hk), h3⟩
  · rintro c i C W' W'' ⟨h1, h2, p, h3, h4, h5, h6, h7⟩ hs _
    exact ⟨h1, h2, p, h3, (hs _ (.inl ((h2 _).2 ((hc0 _).2 (.inl rfl))))).trans h4, (hs _ (.inl ((h2 _).2 ((hc0 _).2 (.inr (.inl rfl)))))).trans h5, (hs _ (.inl ((h2 _).2 ((hc0 _).2 (.inr (.inr (.inl rfl))))))).trans h6, (hs _ (.inl ((h2 _).2 ((hc0 _).2 (.inr (.inr (.inr rfl))))))).trans h7⟩
  · intro k hk
    have := HS2.out
    have := HG.out
    rcases (hc0 k).1 hk with rfl | rfl | rfl | rfl <;> omega
  · intro k hk
    have := HS2.out
    have := HG.out
    refine ⟨?_, rfl, fun h => ?_⟩
    · rcases hk with rfl | rfl | rfl | rfl | rfl <;> omega
    · have h4 := (hc0 k).1 h
      rcases hk with rfl | rfl | rfl | rfl | rfl <;> omega
  · exact ⟨fun k => Iff.rfl, fun k _ => rfl, fun j p hj => by omega⟩
  · intro l i C x W' hx ⟨h1, h2, h3⟩ hC hsz hCl hlW _
    obtain ⟨xt, xw⟩ := x
    have hnl : ∀ k, C0 k → k ≠ l ∧ k < W'.heap.size := fun k hk => ⟨fun e => hCl (e ▸ (h1 k).2 hk), hC k ((h1 k).2 hk)⟩
    have HNL := Lib.hid hnl; have H1 := Lib.hid h1; have H2 := Lib.hid h2; have H3 := Lib.hid h3; have HX := Lib.hid hx; have HLW := Lib.hid hlW
    clear hnl h1 h2 h3 hx hlW hC hCl hsz
    simp only [encPlace, List.zip_toArray, List.zip_cons_cons, List.zip_nil_left, List.size_toArray, List.foldl_toArray, List.foldl_cons, List.foldl_nil, List.setIfInBounds_toArray, List.set_cons_succ, List.set_cons_zero]
    gi_wp2_with fail
    refine ⟨(Only.refl _ _).alloc (fun k hk => .inr hk) _, ?_⟩
    intro W2 hsz2 hk2
    have hpb : W2.heap[W'.heap.size]? = some (.cells #[.string ⟨xt.toArray⟩, .string ⟨xw.toArray⟩] 123) := (hk2 _ (by have := HLW.out; omega)).trans (World.alloc_heap_new W' _)
    have hkeep : ∀ k, C0 k → W2.heap[k]? = w2.heap[k]? := fun k hk => (hk2 k (HNL.out k hk).1).trans ((Below.heap_alloc _ _ _ (HNL.out k hk).2).trans (H2.out k hk))
    have ha2 := (hkeep _ ((hc0 _).2 (.inl rfl))).trans hra2
    have hb2 := (hkeep _ ((hc0 _).2 (.inr (.inl rfl)))).trans hrb2
    have hsz3 : W2.heap.size = W'.heap.size + 1 := by simpa using hsz2
    have p0 := cell_of_heap hpb 0
    have p1 := cell_of_heap hpb 1
    have q0 := cell_of_heap ((hkeep _ ((hc0 _).2 (.inr (.inr (.inl rfl))))).trans heb) 0
    have q1 : W2.cell? ⟨g, 1, none⟩ = some (.string ⟨nv.toArray⟩) := (World.cell?_of_block (w := w1) (a := ⟨g, 1, none⟩) ((hkeep _ ((hc0 _).2 (.inr (.inr (.inr rfl))))).trans hgo)).trans HC1.out
    have a0 := cell_of_heap ha2 0
    have b0 := cell_of_heap hb2 0
    have fa := free_of_heap ha2 0
    have fb := free_of_heap hb2 0
    simp only [List.getElem?_toArray, List.getElem?_cons_zero, List.getElem?_cons_succ] at p0 p1 q0 a0 b0
    have HKEEP := Lib.hid hkeep; have HSZ := Lib.hid hsz3; have HA2 := Lib.hid ha2; have HB2' := Lib.hid hb2
    clear hkeep hsz3 hsz2 hk2 hpb ha2 hb2
    have hCl : ∀ k, C k → k < W2.heap.size := fun k hk => by have := (HNL.out k ((H1.out k).1 hk)).2; have := HSZ.out; omega
    have hN : (xt == nv) = false → Only (Mine C W'.heap.size) W2 W2.drew ∧ ∃ C' : Nat → Prop, (∀ k, C' k → Mine C W'.heap.size k ∧ k < W2.drew.heap.size) ∧ (∀ k, C' k ↔ C0 k) ∧ (∀ k, C0 k → W2.drew.heap[k]? = w2.heap[k]?) ∧
        ∀ (j : Nat) (p : Word × Word), j < i + 1 → xs[j]? = some p → (p.1 == nv) = false := fun hm =>
      ⟨(Only.refl _ _).drew, C, fun k hk => ⟨.inl hk, hCl k hk⟩, H1.out, HKEEP.out, fun j p hj hp => by
        by_cases e : j = i
        · subst e; rw [HX.out] at hp; cases hp; exact hm
        · exact H3.out j p (by omega) hp⟩
    have hT : (xt == nv) = true → Only (Mine C W'.heap.size) W2 ((W2.setCell ⟨w.heap.size, 0, none⟩ (.string ⟨xw.toArray⟩)).setCell ⟨w.heap.size + 1, 0, none⟩ (.int .i64 0)).drew ∧
        ∃ C' : Nat → Prop, (∀ k, C' k → Mine C W'.heap.size k ∧ k < ((W2.setCell ⟨w.heap.size, 0, none⟩ (.string ⟨xw.toArray⟩)).setCell ⟨w.heap.size + 1, 0, none⟩ (.int .i64 0)).drew.heap.size) ∧
          (Code.ret = Code.ret ∧ (∀ k, C' k ↔ C0 k) ∧ ∃ p, wayIn xs nv = some p ∧ ((W2.setCell ⟨w.heap.size, 0, none⟩ (.string ⟨xw.toArray⟩)).setCell ⟨w.heap.size + 1, 0, none⟩ (.int .i64 0)).drew.heap[w.heap.size]? = some (.cells #[.string ⟨p.toArray⟩] 9) ∧
            ((W2.setCell ⟨w.heap.size, 0, none⟩ (.string ⟨xw.toArray⟩)).setCell ⟨w.heap.size + 1, 0, none⟩ (.int .i64 0)).drew.heap[w.heap.size + 1]? = some (.cells #[.int .i64 0] 29) ∧
            ((W2.setCell ⟨w.heap.size, 0, none⟩ (.string ⟨xw.toArray⟩)).setCell ⟨w.heap.size + 1, 0, none⟩ (.int .i64 0)).drew.heap[w1.heap.size]? = w2.heap[w1.heap.size]? ∧
            ((W2.setCell ⟨w.heap.size, 0, none⟩ (.string ⟨xw.toArray⟩)).setCell ⟨w.heap.size + 1, 0, none⟩ (.int .i64 0)).drew.heap[g]? = w2.heap[g]?) := fun hm => by
      have hO := ((Only.refl (Mine C W'.heap.size) W2).setCell (p := ⟨w.heap.size, 0, none⟩) (.inl ((H1.out _).2 ((hc0 _).2 (.inl rfl)))) (.string ⟨xw.toArray⟩)).setCell (p := ⟨w.heap.size + 1, 0, none⟩) (.inl ((H1.out _).2 ((hc0 _).2 (.inr (.inl rfl))))) (.int .i64 0)
      refine ⟨hO.drew, C, fun k hk => ⟨.inl hk, Nat.lt_of_lt_of_le (hCl k hk) hO.size⟩, rfl, H1.out, xw, ?_, ?_, ?_, ?_, ?_⟩
      · unfold wayIn
        rw [find_at HX.out hm (fun j p hj hp => H3.out j p hj hp)]
        rfl
      · refine (Below.heap_setCell _ _ _ _ (by simp)).trans ?_
        rw [heap_setCell_same _ _ _ _ _ _ HA2.out]; rfl
      · rw [show ∀ x : World, x.drew.heap = x.heap from fun _ => rfl, heap_setCell_same _ _ _ _ _ _ ((Below.heap_setCell _ _ _ _ (by simp)).trans HB2'.out)]; rfl
      · exact (Below.heap_setCell _ _ _ _ (by simp; omega)).trans ((Below.heap_setCell _ _ _ _ (by simp; omega)).trans (HKEEP.out _ ((hc0 _).2 (.inr (.inr (.inl rfl))))))
      · exact (Below.heap_setCell _ _ _ _ hgr.2).trans ((Below.heap_setCell _ _ _ _ hgr.1).trans (HKEEP.out _ ((hc0 _).2 (.inr (.inr (.inr rfl))))))
    have HN := Lib.hid hN; have HT := Lib.hid hT
    clear hN hT hCl
    gi_wp2_with fail
    gi_region
    all_goals gi_wp2_with fail
    all_goals (rename_i hm; first | exact HN.out hm | (obtain ⟨e1, C', e2, e3⟩ := HT.out hm; exact ⟨e1, C', e2, rfl, e3.2⟩))
  · intro D C W' hD ⟨h1, h2, h3⟩ hO hK
    have HK := Lib.hid hK; have HO := Lib.hid hO
    have hnone : wayIn xs nv = none := by
      unfold wayIn
      rw [List.find?_eq_none.2]
      · rfl
      · intro p hp
        obtain ⟨j, hj, rfl⟩ := List.getElem_of_mem hp
        simpa using h3 j xs[j] hj (List.getElem?_eq_getElem hj)
    have ca := (h2 _ ((hc0 _).2 (.inl rfl))).trans hra2
    have cb := (h2 _ ((hc0 _).2 (.inr (.inl rfl)))).trans hrb2
    have HNONE := Lib.hid hnone
    have H2 := Lib.hid h2
    have hKK := hK
    have a0 := cell_of_heap ca 0
    have b0 := cell_of_heap cb 0
    have fa := free_of_heap ca 0
    have fb := free_of_heap cb 0
    simp only [List.getElem?_toArray, List.getElem?_cons_zero] at a0 b0
    clear hnone h1 h2 h3 hO hK
    have HKK := Lib.hid hKK; clear hKK
    simp only [Exit.inBlock, Exit.then]
    go_wp2_with fail
    have hne : w.heap.size ≠ w.heap.size + 1 := by omega
    have ra4 : ((W'.setCell ⟨w.heap.size, 0, none⟩ (.string ⟨#[]⟩)).setCell ⟨w.heap.size + 1, 0, none⟩ (.int .i64 3)).heap[w.heap.size]? = some (.cells #[.string ⟨#[]⟩] 9) := by
      rw [Below.heap_setCell _ _ _ _ hne, heap_setCell_same _ _ _ _ _ _ ca]; rfl
    have rb4 : ((W'.setCell ⟨w.heap.size, 0, none⟩ (.string ⟨#[]⟩)).setCell ⟨w.heap.size + 1, 0, none⟩ (.int .i64 3)).heap[w.heap.size + 1]? = some (.cells #[.int .i64 3] 29) := by
      rw [heap_setCell_same _ _ _ _ _ _ ((Below.heap_setCell _ _ _ _ (by simp)).trans cb)]; rfl
    have hO := HO.out
    have hH2 := H2.out
    have hk4 : ∀ k, C0 k ∨ ¬ C0 k := fun k => Classical.em _
    refine way_end (x := []) (y := 3) (D := D) ?_ ⟨rfl, rfl⟩ ra4 rb4 ⟨hB02.trans ?_, by rw [HNONE.out]⟩
    · refine (Below.heap_setCell _ _ _ _ ?_).trans ((Below.heap_setCell _ _ _ _ ?_).trans HK.out)
      · rintro rfl; have hKK := HKK.out; rw [cb] at hKK; cases hKK
      · rintro rfl; have hKK := HKK.out; rw [ca] at hKK; cases hKK
    · refine ⟨hO.os, hO.tape, hO.output, by simpa [World.putObj, World.setCell] using hO.size, fun k hk => ?_⟩
      have hz := hB02.size
      rw [World.putObj_heap_other (by omega), Below.heap_setCell _ _ _ _ (by simp; omega), Below.heap_setCell _ _ _ _ (by simp; omega)]
      rcases hk4 k with h | h
      · exact hH2 k h
      · refine hO.block k ?_
        rintro (h' | h')
        · exact h h'
        · omega
  · rintro D i c C W' hD hi ⟨rfl, h2, p, h3, h4, h5, h6, h7⟩ hO hK
    go_wp2_with fail
    refine way_end hK ⟨rfl, rfl⟩ h4 h5 ⟨hB02.trans ?_, by rw [h3]⟩
    refine ⟨hO.os, hO.tape, hO.output, by simpa [World.putObj] using hO.size, fun k hk => ?_⟩
    have hz := hB02.size
    rw [World.putObj_heap_other (by omega)]
    rcases Classical.em (k = g) with rfl | h
    · exact h7
    · refine hO.block k ?_
      rintro (h' | h')
      · rcases (hc0 k).1 h' with e | e | e | e <;> omega
      · omega
end Go.Proofs.YtbfnnlcckpabnaaGreat
