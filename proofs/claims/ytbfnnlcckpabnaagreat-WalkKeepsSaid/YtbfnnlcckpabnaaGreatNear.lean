/- walk.Near. -/
import Derived.Sort.CutIn
import Derived.Test.YtbfnnlcckpabnaaGreatWay
namespace Go.Proofs.YtbfnnlcckpabnaaGreat
set_option linter.unusedSimpArgs false
set_option linter.unusedVariables false
open Go.RowKit

/-- The nearest thing: whether one was found, how far, and where. -/
def nearGo (T : Things) : Places → Bool × Nat × Word → Bool × Nat × Word
  | [], s => s
  | p :: ps, (f, far, e) =>
    if f = true ∧ far < p.2.length then (f, far, e) else
    if (mlook p.1 T).isSome = true ∧ (f = false ∨ Hy.cmpW p.1 e < 0) then nearGo T ps (true, p.2.length, p.1) else nearGo T ps (f, far, e)

def NearPost (T : Things) (xs : Places) (w : World) (e : Ending) (w' : World) : Prop :=
  Below w.heap.size w w' ∧ e = .returned (.tuple (match nearGo T xs (false, 0, []) with
    | (true, _, t) => #[.string ⟨t.toArray⟩, .string ⟨((mlook t T).getD []).toArray⟩, .int .i64 0]
    | (false, _, _) => #[.string ⟨#[]⟩, .string ⟨#[]⟩, .int .i64 3]))

structure NearAt (w2 : World) (mb tb mx ex fx ax : Nat) (f : Bool) (far : Nat) (e : Word) (W' : World) : Prop where
  m : W'.heap[mx]? = some (.cells #[.pointer (some ⟨mb, 0, none⟩)] 28)
  e : W'.heap[ex]? = some (.cells #[.string ⟨e.toArray⟩] 9)
  f : W'.heap[fx]? = some (.cells #[.bool f] 4)
  a : W'.heap[ax]? = some (.cells #[.int .i64 far] 3)
  mb : W'.heap[mb]? = w2.heap[mb]?
  tb : W'.heap[tb]? = w2.heap[tb]?

theorem NearAt.of_heap {w2 : World} {mb tb mx ex fx ax : Nat} {f : Bool} {far : Nat} {e : Word} {W' W'' : World} (h : NearAt w2 mb tb mx ex fx ax f far e W') (hs : ∀ k, (k = mx ∨ k = ex ∨ k = fx ∨ k = ax ∨ k = mb ∨ k = tb) → W''.heap[k]? = W'.heap[k]?) : NearAt w2 mb tb mx ex fx ax f far e W'' :=
  ⟨(hs _ (by simp)).trans h.m, (hs _ (by simp)).trans h.e, (hs _ (by simp)).trans h.f, (hs _ (by simp)).trans h.a, (hs _ (by simp)).trans h.mb, (hs _ (by simp)).trans h.tb⟩

theorem near_end {Wf : World} {D eb : Nat} {tm : Array Value} {x : Word} {v5 v6 : Value} {t1 : TypeId} {R : Ending → World → Prop} (hK : Wf.heap[D]? = some (.deferred (some []))) (h6 : tm[4]? = some (.pointer (some ⟨eb, 0, none⟩)) ∧ tm[5]? = some v5 ∧ tm[6]? = some v6)
    (ha : Wf.heap[eb]? = some (.cells #[.string ⟨x.toArray⟩] t1)) (hR : R (.returned (.tuple #[.string ⟨x.toArray⟩, v5, v6])) (Wf.putObj D (.deferred none))) :
    bodyPostM Fence.wide 0 Tryz.prog Tryz.f24 R .ret { tmps := tm, defers := [{ target := .collected D, args := #[] }] } Wf := by
  have n1 : eb ≠ D := by rintro rfl; rw [ha] at hK; cases hK
  have c1 := cell_of_heap ((World.putObj_heap_other (w := Wf) (o := .deferred none) n1).trans ha) 0
  refine post_marks1 rfl hK ?_ hR
  simp only [List.getElem?_toArray, List.getElem?_cons_zero] at c1
  simp [results, Tryz.results24, go_sem, h6.1, h6.2.1, h6.2.2, c1]

theorem Only.below_of {B : Nat → Prop} {w w' : World} (h : Only B w w') {N : Nat} (hN : ∀ k, B k → N ≤ k) : Below N w w' := h.below hN

theorem near_store {w2 : World} {mb tb mx ex fx ax : Nat} {f : Bool} {far : Nat} {e : Word} {W' : World} (h : NearAt w2 mb tb mx ex fx ax f far e W') (n : Nat) (x : Word) (h1 : fx ≠ ex) (h2 : ax ≠ ex) (h3 : fx ≠ ax) (hm : mx ≠ ex ∧ mx ≠ fx ∧ mx ≠ ax) (hb : mb ≠ ex ∧ mb ≠ fx ∧ mb ≠ ax) (ht : tb ≠ ex ∧ tb ≠ fx ∧ tb ≠ ax) :
    NearAt w2 mb tb mx ex fx ax true n x (((W'.setCell ⟨fx, 0, none⟩ (.bool true)).setCell ⟨ax, 0, none⟩ (.int .i64 n)).setCell ⟨ex, 0, none⟩ (.string ⟨x.toArray⟩)).drew.drew := by
  have hk : ∀ k, k ≠ ex ∧ k ≠ fx ∧ k ≠ ax → ((((W'.setCell ⟨fx, 0, none⟩ (.bool true)).setCell ⟨ax, 0, none⟩ (.int .i64 n)).setCell ⟨ex, 0, none⟩ (.string ⟨x.toArray⟩)).drew.drew).heap[k]? = W'.heap[k]? := fun k hk =>
    (Below.heap_setCell _ _ _ _ hk.1).trans ((Below.heap_setCell _ _ _ _ hk.2.2).trans (Below.heap_setCell _ _ _ _ hk.2.1))
  have hd : ∀ x : World, x.drew.drew.heap = x.heap := fun _ => rfl
  refine ⟨(hk _ hm).trans h.m, ?_, ?_, ?_, (hk _ hb).trans h.mb, (hk _ ht).trans h.tb⟩
  · rw [hd, heap_setCell_same _ _ _ _ _ _ ((Below.heap_setCell _ _ _ _ (Ne.symm h2)).trans ((Below.heap_setCell _ _ _ _ (Ne.symm h1)).trans h.e))]; rfl
  · refine (Below.heap_setCell _ _ _ _ h1).trans ((Below.heap_setCell _ _ _ _ h3).trans ?_)
    rw [heap_setCell_same _ _ _ _ _ _ h.f]; rfl
  · refine (Below.heap_setCell _ _ _ _ h2).trans ?_
    rw [heap_setCell_same _ _ _ _ _ _ ((Below.heap_setCell _ _ _ _ (Ne.symm h3)).trans h.a)]; rfl

def NearI (T : Things) (xs : Places) (C0 : Nat → Prop) (A : Bool → Nat → Word → World → Prop) (i : Nat) (C : Nat → Prop) (W' : World) : Prop :=
  (∀ k, C k ↔ C0 k) ∧ ∃ f far e, nearGo T xs (false, 0, []) = nearGo T (xs.drop i) (f, far, e) ∧ e.length ≤ 1000 ∧ far ≤ 1000 ∧ A f far e W'
def NearX (T : Things) (xs : Places) (C0 : Nat → Prop) (A : Bool → Nat → Word → World → Prop) (c : Code) (_i : Nat) (C : Nat → Prop) (W' : World) : Prop :=
  c = .exit 0 ∧ (∀ k, C k ↔ C0 k) ∧ ∃ f far e, nearGo T xs (false, 0, []) = (f, far, e) ∧ A f far e W'

theorem round_exit {I : Nat → (Nat → Prop) → World → Prop} {Ix : Code → Nat → (Nat → Prop) → World → Prop} {i : Nat} {C : Nat → Prop} {N : Nat} {W W' : World} {id : Nat} {a : Act}
    (h : Only (Mine C N) W W' ∧ ∃ C' : Nat → Prop, (∀ k, C' k → Mine C N k ∧ k < W'.heap.size) ∧ Ix (.exit id) (i + 1) C' W') : roundPostC I Ix i C N W (.exit id) a W' := h
theorem round_normal {I : Nat → (Nat → Prop) → World → Prop} {Ix : Code → Nat → (Nat → Prop) → World → Prop} {i : Nat} {C : Nat → Prop} {N : Nat} {W W' : World} {a : Act}
    (h : Only (Mine C N) W W' ∧ ∃ C' : Nat → Prop, (∀ k, C' k → Mine C N k ∧ k < W'.heap.size) ∧ I (i + 1) C' W') : roundPostC I Ix i C N W .normal a W' := h

theorem nearGo_cons (T : Things) (p : Word × Word) (ps : Places) (f : Bool) (far : Nat) (e : Word) : nearGo T (p :: ps) (f, far, e) =
    if f = true ∧ far < p.2.length then (f, far, e) else if (mlook p.1 T).isSome = true ∧ (f = false ∨ Hy.cmpW p.1 e < 0) then nearGo T ps (true, p.2.length, p.1) else nearGo T ps (f, far, e) := rfl

attribute [local go_sem] Oper.semAt_some

set_option maxRecDepth 100000 in
set_option maxHeartbeats 16000000 in
theorem walk_Near {w : World} {o : Hy.Ord} {mb wb tb : Nat} {W : Walls} {T : Things} (h : MRep w o mb wb tb W T) (ho : Small o) (u : Word) (fuel steps : Nat) (nu : Word) (hz : Hy.wordErr u = 0) (hnu : Hy.norm o fuel u = some nu)
    (xs : Places) (hr : reachAll o fuel (wallIn W) nu steps [(nu, [])] [(nu, true)] = some xs) (hlen : ∀ p ∈ xs, p.1.length ≤ 1000 ∧ p.2.length ≤ 1000) :
    Calls Tryz.prog 24 #[.pointer (some ⟨mb, 0, none⟩), str u] w (NearPost T xs w) := by
  have hlu : u.length ≤ 60 := (Hy.wordErr_letters hz).2
  have HCALL := Lib.hid (fun W' (hb : MRep W' o mb wb tb W T) => walk_normal hb ho u (by omega) fuel nu (fun _ => hnu))
  have HGROW := Lib.hid (fun W' (hb : Below w.heap.size w W') => h.grow hb)
  have HM := Lib.hid h; have HR := Lib.hid hr; have HZ := Lib.hid hz; have HLEN := Lib.hid hlen
  clear hlu hnu h hr hz hlen
  unfold str at *
  refine calls_of_marks Tryz.func24 rfl ?_
  simp only [Tryz.ntmps24, List.size_toArray, List.length_cons, List.length_nil, Nat.reduceAdd, Nat.reduceSub, Array.replicate_succ, Array.replicate_zero, List.push_toArray, List.append_toArray, List.nil_append, List.cons_append]
  go_wp2_with fail
  have hB0 : Below w.heap.size w ((w.alloc (.cells #[.pointer (some ⟨mb, 0, none⟩)] 28)).alloc (.cells #[.string ⟨#[]⟩] 9)) :=
    ((Below.refl _ _).alloc (Nat.le_refl _) _).alloc (by simp) _
  refine (HCALL.out _ (HGROW.out _ hB0)).mono ?_
  rintro e w1 ⟨rfl, hB⟩
  rw [if_pos HZ.out, HZ.out]
  clear HCALL
  have hB1 : Below w.heap.size w w1 := hB0.trans (hB.mono (by simp; omega))
  have hmx : w1.heap[w.heap.size]? = some (.cells #[.pointer (some ⟨mb, 0, none⟩)] 28) :=
    (hB.block _ (by simp; omega)).trans ((Below.heap_alloc _ _ _ (by simp)).trans (World.alloc_heap_new w _))
  have hex : w1.heap[w.heap.size + 1]? = some (.cells #[.string ⟨#[]⟩] 9) := by
    have := World.alloc_heap_new (w.alloc (.cells #[.pointer (some ⟨mb, 0, none⟩)] 28)) (.cells #[.string ⟨#[]⟩] 9)
    rw [World.size_alloc] at this
    exact (hB.block _ (by simp)).trans this
  have hs1 : w.heap.size + 2 ≤ w1.heap.size := by have := hB.size; simp at this; omega
  have cmx := cell_of_heap hmx 0
  simp only [List.getElem?_toArray, List.getElem?_cons_zero] at cmx
  have cmx2 : ∀ ob ob', ((w1.alloc ob).alloc ob').cell? ⟨w.heap.size, 0, none⟩ = some (.pointer (some ⟨mb, 0, none⟩)) := fun ob ob' => (World.cell?_alloc_lt _ _ _ (by simp; omega)).trans ((World.cell?_alloc_lt _ _ _ (by simp; omega)).trans cmx)
  have HB1 := Lib.hid hB1; have HMX := Lib.hid hmx; have HEX := Lib.hid hex; have HS1 := Lib.hid hs1
  clear hB1 hmx hex hs1 hB hB0
  unfold str
  go_wp2_with fail
  refine (walk_reached mb nu _).mono ?_
  rintro e w2 ⟨rfl, hB2, hs2, hxb, hyb⟩
  simp only [World.size_alloc] at hs2 hxb hyb ⊢
  have hs1 := HS1.out
  have hf2 : w2.heap[w1.heap.size]? = some (.cells #[.bool false] 4) := (hB2.block _ (by simp; omega)).trans ((Below.heap_alloc _ _ _ (by simp)).trans (World.alloc_heap_new w1 _))
  have ha2 : w2.heap[w1.heap.size + 1]? = some (.cells #[.int .i64 0] 3) := by
    have := World.alloc_heap_new (w1.alloc (.cells #[.bool false] 4)) (.cells #[.int .i64 0] 3)
    rw [World.size_alloc] at this
    exact (hB2.block _ (by simp)).trans this
  have hsame : ∀ k, k < w1.heap.size → w2.heap[k]? = w1.heap[k]? := fun k hk => (hB2.block k (by simp; omega)).trans ((Below.heap_alloc _ _ _ (by simp; omega)).trans (Below.heap_alloc _ _ _ hk))
  have hB02 : Below w.heap.size w w2 := HB1.out.trans ((((Below.refl _ w1).alloc (Nat.le_refl _) _).alloc (by simp) _ |>.trans (hB2.mono (by simp; omega))).mono HB1.out.size)
  have hM2 := HGROW.out w2 hB02
  have hlm := HM.out.lt
  have hat : NearAt w2 mb tb w.heap.size (w.heap.size + 1) w1.heap.size (w1.heap.size + 1) false 0 [] w2 :=
    ⟨(hsame _ (by omega)).trans HMX.out, (hsame _ (by omega)).trans HEX.out, hf2, ha2, rfl, rfl⟩
  have HAT := Lib.hid hat; have HS2 := Lib.hid hs2; have HXB := Lib.hid hxb; have HYB := Lib.hid hyb
  clear hat hs2 hxb hyb hf2 ha2 hsame hB2 cmx cmx2
  go_wp2_with fail
  obtain ⟨C0, hC0⟩ : ∃ C0 : Nat → Prop, C0 = fun k => k = w.heap.size ∨ k = w.heap.size + 1 ∨ k = w1.heap.size ∨ k = w1.heap.size + 1 := ⟨_, rfl⟩
  have hc0 : ∀ k, C0 k ↔ (k = w.heap.size ∨ k = w.heap.size + 1 ∨ k = w1.heap.size ∨ k = w1.heap.size + 1) := fun k => by rw [hC0]
  clear hC0
  have HC0 := Lib.hid hc0
  have hst : ∀ {C : Nat → Prop} {f far e W' W''}, NearAt w2 mb tb w.heap.size (w.heap.size + 1) w1.heap.size (w1.heap.size + 1) f far e W' → (∀ k, C k ↔ C0 k) → (∀ k, C k ∨ ReachOwn (w1.heap.size + 1 + 1 + 1) (w1.heap.size + 1 + 1) mb wb tb k → W''.heap[k]? = W'.heap[k]?) → NearAt w2 mb tb w.heap.size (w.heap.size + 1) w1.heap.size (w1.heap.size + 1) f far e W'' := by
    intro C f far e W' W'' hn hc hs
    refine hn.of_heap (fun k hk => hs k ?_)
    rcases hk with hk | hk | hk | hk | hk | hk
    · exact .inl ((hc k).2 ((hc0 k).2 (by omega)))
    · exact .inl ((hc k).2 ((hc0 k).2 (by omega)))
    · exact .inl ((hc k).2 ((hc0 k).2 (by omega)))
    · exact .inl ((hc k).2 ((hc0 k).2 (by omega)))
    · exact .inr (.inr (.inr (.inl hk)))
    · exact .inr (.inr (.inr (.inr (.inr hk))))
  refine wp_range (gf := 79) (lb := #[.pointer (some ⟨w1.heap.size + 1 + 1 + 1, 0, none⟩), .pointer (some ⟨w1.heap.size + 1 + 1, 0, none⟩)]) rfl (fun args w => by simp [go_sem]) (encs := fun p => #[encPlace p]) (xs := xs)
    (reached_iter hM2 ho _ _ nu HXB.out HYB.out fuel steps xs HR.out) (Nat.le_refl _) (fun _ => rfl)
    (NearI T xs C0 (NearAt w2 mb tb w.heap.size (w.heap.size + 1) w1.heap.size (w1.heap.size + 1))) (NearX T xs C0 (NearAt w2 mb tb w.heap.size (w.heap.size + 1) w1.heap.size (w1.heap.size + 1)))
    ?_ ?_ C0 ?_ ?_ ?_ ?_ ?_ ?_
  · rintro i C W' W'' ⟨h1, f, far, e, h2, h3, h3', h4⟩ hs _
    exact ⟨h1, f, far, e, h2, h3, h3', hst h4 h1 hs⟩
  · rintro c i C W' W'' ⟨h0, h1, f, far, e, h2, h4⟩ hs _
    exact ⟨h0, h1, f, far, e, h2, hst h4 h1 hs⟩
  · intro k hk
    have := HS2.out
    rcases (hc0 k).1 hk with rfl | rfl | rfl | rfl <;> omega
  · intro k hk
    have := HS2.out
    refine ⟨?_, rfl, fun h => ?_⟩
    · rcases hk with rfl | rfl | rfl | rfl | rfl <;> omega
    · have h4 := (hc0 k).1 h
      rcases hk with rfl | rfl | rfl | rfl | rfl <;> omega
  · exact ⟨fun k => Iff.rfl, false, 0, [], rfl, by simp, by simp, HAT.out⟩
  · intro l i C x W' hx ⟨h1, f, far, e, h2, h3, h3', h4⟩ hC hsz hCl hlW hol
    obtain ⟨xt, xw⟩ := x
    clear hst
    have hc0 := HC0.out
    have hnl : ∀ k, C0 k → k ≠ l ∧ k < W'.heap.size := fun k hk => ⟨fun e => hCl (e ▸ (h1 k).2 hk), hC k ((h1 k).2 hk)⟩
    have HNL := Lib.hid hnl; have H1 := Lib.hid h1; have H2 := Lib.hid h2; have H4 := Lib.hid h4; have HX := Lib.hid hx; have HLW := Lib.hid hlW; have HWZ := Lib.hid hsz; have HOL := Lib.hid hol
    have hxl := HLEN.out _ (List.mem_of_getElem? hx)
    clear hnl h1 h2 h4 hx hlW hC hCl hsz hol
    simp only [encPlace, List.zip_toArray, List.zip_cons_cons, List.zip_nil_left, List.size_toArray, List.foldl_toArray, List.foldl_cons, List.foldl_nil, List.setIfInBounds_toArray, List.set_cons_succ, List.set_cons_zero]
    gi_wp2_with fail
    refine ⟨(Only.refl _ _).alloc (fun k hk => .inr hk) _, ?_⟩
    intro W2 hsz2 hk2
    have hat2 : NearAt w2 mb tb w.heap.size (w.heap.size + 1) w1.heap.size (w1.heap.size + 1) f far e W2 := by
      refine H4.out.of_heap (fun k hk => ?_)
      have h5 : k ≠ l ∧ k < W'.heap.size := by
        have h6 := HNL.out k
        have h7 := hc0 k
        have h8 := HOL.out k
        have h9 := HWZ.out
        have h10 := HS2.out
        rcases hk with hk | hk | hk | hk | hk | hk
        · exact h6 (h7.2 (by omega))
        · exact h6 (h7.2 (by omega))
        · exact h6 (h7.2 (by omega))
        · exact h6 (h7.2 (by omega))
        · exact ⟨h8 (.inr (.inr (.inl hk))), by omega⟩
        · exact ⟨h8 (.inr (.inr (.inr (.inr hk)))), by omega⟩
      exact (hk2 k h5.1).trans (Below.heap_alloc _ _ _ h5.2)
    have hpb : W2.heap[W'.heap.size]? = some (.cells #[.string ⟨xt.toArray⟩, .string ⟨xw.toArray⟩] 123) := (hk2 _ (by have := HLW.out; omega)).trans (World.alloc_heap_new W' _)
    have hsz3 : W2.heap.size = W'.heap.size + 1 := by simpa using hsz2
    have p0 := cell_of_heap hpb 0
    have p1 := cell_of_heap hpb 1
    have cm := cell_of_heap hat2.m 0
    have ce := cell_of_heap hat2.e 0
    have cf := cell_of_heap hat2.f 0
    have ca := cell_of_heap hat2.a 0
    have fe := free_of_heap hat2.e 0
    have ff := free_of_heap hat2.f 0
    have fa := free_of_heap hat2.a 0
    simp only [List.getElem?_toArray, List.getElem?_cons_zero, List.getElem?_cons_succ] at p0 p1 cm ce cf ca
    have hmc := hat2.mb.trans hM2.cells
    have htb := hM2.things.of_heap hat2.tb
    have cth : W2.cell? ⟨mb, 5, none⟩ = some (.map (some tb)) := cell_of_heap hmc 5
    have hlk1 := (htb.of_heap (w' := W2.drew) rfl).look keys_str Tryz.underlying55 xt (zero_string W2.drew) true
    simp only [if_true] at hlk1
    unfold str at hlk1
    obtain ⟨is, his⟩ : ∃ is, is = (mlook xt T).isSome := ⟨_, rfl⟩
    rw [← his] at hlk1
    generalize ((mlook xt T).map _).getD _ = val at hlk1
    have hxs : xs.drop i = (xt, xw) :: xs.drop (i + 1) := by
      obtain ⟨hil, hie⟩ := List.getElem?_eq_some_iff.1 HX.out
      rw [List.drop_eq_getElem_cons hil, hie]
    have hgo := nearGo_cons T (xt, xw) (xs.drop (i + 1)) f far e
    rw [← hxs] at hgo
    simp only [← his] at hgo
    have hH2 := H2.out
    rw [hgo] at hH2
    have HGO := Lib.hid hH2; have HAT2 := Lib.hid hat2; have HSZ := Lib.hid hsz3; have HIS := Lib.hid his
    clear hc0 hat2 hpb hsz3 hsz2 hk2 hmc htb hxs hgo hH2 his
    have hCl : ∀ k, C k → k < W2.heap.size := fun k hk => by have := (HNL.out k ((H1.out k).1 hk)).2; have := HSZ.out; omega
    have HCL := Lib.hid hCl; clear hCl
    by_cases hbrk : f = true ∧ far < xw.length
    · obtain ⟨rfl, hfx⟩ := hbrk
      gi_wp2_with fail
      refine round_exit ?_
      have hg := HGO.out
      rw [if_pos (by simp [hfx])] at hg
      refine ⟨Only.refl _ _, C, fun k hk => ⟨.inl hk, HCL.out k hk⟩, ?_⟩
      unfold NearX
      exact ⟨rfl, H1.out, _, _, _, hg, HAT2.out⟩
    · have hg := HGO.out
      rw [if_neg hbrk] at hg
      have HG2 := Lib.hid hg; clear hg
      have z1 := HSZ.out
      have z2 := HWZ.out
      have z3 := HS2.out
      have z4 := HS1.out
      have hT : nearGo T xs (false, 0, []) = nearGo T (xs.drop (i + 1)) (true, xw.length, xt) →
          Only (Mine C W'.heap.size) W2 (((W2.setCell ⟨w1.heap.size, 0, none⟩ (.bool true)).setCell ⟨w1.heap.size + 1, 0, none⟩ (.int .i64 xw.length)).setCell ⟨w.heap.size + 1, 0, none⟩ (.string ⟨xt.toArray⟩)).drew.drew ∧
          ∃ C' : Nat → Prop, (∀ k, C' k → Mine C W'.heap.size k ∧ k < (((W2.setCell ⟨w1.heap.size, 0, none⟩ (.bool true)).setCell ⟨w1.heap.size + 1, 0, none⟩ (.int .i64 xw.length)).setCell ⟨w.heap.size + 1, 0, none⟩ (.string ⟨xt.toArray⟩)).drew.drew.heap.size) ∧
          NearI T xs C0 (NearAt w2 mb tb w.heap.size (w.heap.size + 1) w1.heap.size (w1.heap.size + 1)) (i + 1) C' (((W2.setCell ⟨w1.heap.size, 0, none⟩ (.bool true)).setCell ⟨w1.heap.size + 1, 0, none⟩ (.int .i64 xw.length)).setCell ⟨w.heap.size + 1, 0, none⟩ (.string ⟨xt.toArray⟩)).drew.drew := by
        intro hgo
        have hm : ∀ k, C0 k → Mine C W'.heap.size k := fun k hk => .inl ((H1.out k).2 hk)
        have hO := (((Only.refl (Mine C W'.heap.size) W2).setCell (p := ⟨w1.heap.size, 0, none⟩) (hm _ ((HC0.out _).2 (by simp))) (.bool true)).setCell (p := ⟨w1.heap.size + 1, 0, none⟩) (hm _ ((HC0.out _).2 (by simp))) (.int .i64 xw.length)).setCell (p := ⟨w.heap.size + 1, 0, none⟩) (hm _ ((HC0.out _).2 (by simp))) (.string ⟨xt.toArray⟩)
        exact ⟨hO.drew.drew, C, fun k hk => ⟨.inl hk, Nat.lt_of_lt_of_le (HCL.out k hk) hO.size⟩, H1.out, true, xw.length, xt, hgo, hxl.1, hxl.2,
          near_store HAT2.out xw.length xt (by omega) (by omega) (by omega) (by omega) (by omega) (by omega)⟩
      have hN : nearGo T xs (false, 0, []) = nearGo T (xs.drop (i + 1)) (f, far, e) → Only (Mine C W'.heap.size) W2 W2.drew ∧ ∃ C' : Nat → Prop, (∀ k, C' k → Mine C W'.heap.size k ∧ k < W2.drew.heap.size) ∧
          NearI T xs C0 (NearAt w2 mb tb w.heap.size (w.heap.size + 1) w1.heap.size (w1.heap.size + 1)) (i + 1) C' W2.drew := fun hgo =>
        ⟨(Only.refl _ _).drew, C, fun k hk => ⟨.inl hk, HCL.out k hk⟩, H1.out, f, far, e, hgo, h3, h3', HAT2.out.of_heap (fun k _ => rfl)⟩
      have n1 : W'.heap.size ≠ w1.heap.size := by omega
      have n2 : W'.heap.size ≠ w1.heap.size + 1 := by omega
      have n3 : W'.heap.size ≠ w.heap.size + 1 := by omega
      have n4 : w1.heap.size ≠ w.heap.size + 1 := by omega
      have n5 : w1.heap.size + 1 ≠ w.heap.size + 1 := by omega
      have n1' := n1.symm
      have n2' := n2.symm
      have n3' := n3.symm
      have n4' := n4.symm
      have n5' := n5.symm
      have HT := Lib.hid hT; have HN := Lib.hid hN; have HIS2 := Lib.hid (rfl : is = is)
      clear z1 z2 z3 z4 hT hN
      cases f with
      | false =>
        gi_wp2_with fail
        gi_cut [12, 13] from 27 (fun x y wx => x = val ∧ y = .bool is ∧ wx = W2.drew)
        case first =>
          gi_region
          all_goals gi_wp2_with fail
          all_goals gi_meet
          all_goals exact ⟨rfl, rfl, rfl⟩
        case rest =>
          obtain ⟨rfl, rfl, rfl⟩ := hcut
          clear cm cth hlk1
          cases is with
          | false =>
            have hg := HG2.out
            rw [if_neg (by simp)] at hg
            have HF := Lib.hid (HN.out hg); clear hg
            gi_wp2_with (refine ⟨trivial, ?_⟩)
            exact round_normal HF.out
          | true =>
            have hg := HG2.out
            rw [if_pos (by simp)] at hg
            have HF := Lib.hid (HT.out hg); clear hg
            gi_wp2_with (refine ⟨trivial, ?_⟩)
            gi_region
            all_goals gi_wp2_with fail
            all_goals exact round_normal HF.out
      | true =>
        have hfx : ¬ far < xw.length := fun hh => hbrk ⟨rfl, hh⟩
        gi_wp2_with fail
        gi_cut [12, 13] from 27 (fun x y wx => x = val ∧ y = .bool is ∧ wx = W2.drew)
        case first =>
          gi_region
          all_goals gi_wp2_with fail
          all_goals gi_meet
          all_goals exact ⟨rfl, rfl, rfl⟩
        case rest =>
          obtain ⟨rfl, rfl, rfl⟩ := hcut
          clear cm cth hlk1
          cases is with
          | false =>
            have hg := HG2.out
            rw [if_neg (by simp)] at hg
            have HF := Lib.hid (HN.out hg); clear hg
            gi_wp2_with (refine ⟨trivial, ?_⟩)
            exact round_normal HF.out
          | true =>
            have HW1 := Lib.hid (walk_first xt e W2.drew (by omega) (by omega))
            unfold str at HW1
            obtain ⟨cw, hcw⟩ : ∃ cw, cw = Hy.cmpW xt e := ⟨_, rfl⟩
            rw [← hcw] at HW1
            have hg := HG2.out
            rw [← hcw] at hg
            have HG3 := Lib.hid hg; clear hg hcw
            by_cases hlt : cw < 0
            · have hg := HG3.out
              rw [if_pos (by simp [hlt])] at hg
              have HF := Lib.hid (HT.out hg); clear hg
              gi_wp2_with (first | (refine ⟨(rfl : Fence.wide.depth = none), ?_⟩) | (gi_at_call 56; refine (CallsIn.inRound l (callsIn_wide.2 HW1.out)).mono ?_; rintro e w4 ⟨rfl, rfl⟩) | (refine ⟨trivial, ?_⟩))
              gi_region
              all_goals gi_wp2_with fail
              all_goals exact round_normal HF.out
            · have hg := HG3.out
              rw [if_neg (by simp [hlt])] at hg
              have HF := Lib.hid (HN.out hg); clear hg
              gi_wp2_with (first | (refine ⟨(rfl : Fence.wide.depth = none), ?_⟩) | (gi_at_call 56; refine (CallsIn.inRound l (callsIn_wide.2 HW1.out)).mono ?_; rintro e w4 ⟨rfl, rfl⟩) | (refine ⟨trivial, ?_⟩))
              exact round_normal HF.out
  · rintro D C W' hD ⟨h1, f, far, e, h2, h3, h3', h4⟩ hO hK
    have h5 : nearGo T xs (false, 0, []) = (f, far, e) := by rw [h2, List.drop_length]; rfl
    simp only [Exit.inBlock, Exit.then]
    have cm := cell_of_heap h4.m 0
    have ce := cell_of_heap h4.e 0
    have cf := cell_of_heap h4.f 0
    have fe := free_of_heap h4.e 0
    simp only [List.getElem?_toArray, List.getElem?_cons_zero] at cm ce cf
    have cth : W'.cell? ⟨mb, 5, none⟩ = some (.map (some tb)) := cell_of_heap (h4.mb.trans hM2.cells) 5
    have htb := hM2.things.of_heap h4.tb
    have hlk := (htb.of_heap (w' := W'.drew) rfl).look keys_str Tryz.underlying55 e (zero_string W'.drew) false
    simp only [Bool.false_eq_true, if_false] at hlk
    have hval : ((mlook e T).map str).getD (str []) = .string ⟨((mlook e T).getD []).toArray⟩ := by cases mlook e T <;> rfl
    have hlk2 := (htb.of_heap (w' := (W'.setCell ⟨w.heap.size + 1, 0, none⟩ (.string ⟨e.toArray⟩)).drew) (Below.heap_setCell _ _ _ _ (by simp; omega))).look keys_str Tryz.underlying55 e (zero_string (W'.setCell ⟨w.heap.size + 1, 0, none⟩ (.string ⟨e.toArray⟩)).drew) false
    simp only [Bool.false_eq_true, if_false] at hlk2
    rw [hval] at hlk hlk2
    unfold str at hlk hlk2
    generalize hvv : (mlook e T).getD [] = vv at hlk hlk2
    have hbel : ∀ W5 : World, Only (fun k => k = w.heap.size + 1) W' W5 → Below w.heap.size w (W5.putObj D (.deferred none)) := fun W5 h5 => by
      have z := hB02.size
      refine hB02.trans ((hO.trans (h5.mono (fun k hk => .inl ((hc0 k).2 (by omega))))).trans (only_putObj W5 (.inr (by omega)) _) |>.below_of ?_)
      rintro k (hk | hk)
      · have := (hc0 k).1 hk; omega
      · omega
    have HBEL := Lib.hid hbel; have H4 := Lib.hid h4; have HK := Lib.hid hK; have H5 := Lib.hid h5; have HVV := Lib.hid hvv; have HOO := Lib.hid hO
    clear hbel h4 hK h5 hvv htb hval hO
    cases f with
    | false =>
      have hD1 : D ≠ w.heap.size + 1 := by have := hB02.size; have := HS2.out; have := HS1.out; omega
      have hK2 : (W'.setCell ⟨w.heap.size + 1, 0, none⟩ (.string ⟨#[]⟩)).heap[D]? = some (.deferred (some [])) := (Below.heap_setCell _ _ _ _ hD1).trans HK.out
      have he2 : (W'.setCell ⟨w.heap.size + 1, 0, none⟩ (.string ⟨#[]⟩)).heap[w.heap.size + 1]? = some (.cells #[.string ⟨#[]⟩] 9) := by
        rw [heap_setCell_same _ _ _ _ _ _ H4.out.e]; rfl
      have hp : NearPost T xs w (.returned (.tuple #[.string ⟨#[]⟩, .string ⟨#[]⟩, .int .i64 3])) ((W'.setCell ⟨w.heap.size + 1, 0, none⟩ (.string ⟨#[]⟩)).putObj D (.deferred none)) :=
        ⟨HBEL.out _ ((Only.refl (fun k => k = w.heap.size + 1) _).setCell (p := ⟨w.heap.size + 1, 0, none⟩) rfl _), by rw [H5.out]⟩
      have HK2 := Lib.hid hK2; have HE2 := Lib.hid he2; have HP := Lib.hid hp; clear hK2 he2 hp hD1
      go_wp2_with fail
      exact near_end (x := []) HK2.out ⟨rfl, rfl, rfl⟩ HE2.out HP.out
    | true =>
      have hD1 : D ≠ w.heap.size + 1 := by have := hB02.size; have := HS2.out; have := HS1.out; omega
      have hK2 : (W'.setCell ⟨w.heap.size + 1, 0, none⟩ (.string ⟨e.toArray⟩)).drew.heap[D]? = some (.deferred (some [])) := (Below.heap_setCell _ _ _ _ hD1).trans HK.out
      have he2 : (W'.setCell ⟨w.heap.size + 1, 0, none⟩ (.string ⟨e.toArray⟩)).drew.heap[w.heap.size + 1]? = some (.cells #[.string ⟨e.toArray⟩] 9) := by
        rw [show ∀ x : World, x.drew.heap = x.heap from fun _ => rfl, heap_setCell_same _ _ _ _ _ _ H4.out.e]; rfl
      have hp : NearPost T xs w (.returned (.tuple #[.string ⟨e.toArray⟩, .string ⟨vv.toArray⟩, .int .i64 0])) ((W'.setCell ⟨w.heap.size + 1, 0, none⟩ (.string ⟨e.toArray⟩)).drew.putObj D (.deferred none)) :=
        ⟨HBEL.out _ (((Only.refl (fun k => k = w.heap.size + 1) _).setCell (p := ⟨w.heap.size + 1, 0, none⟩) rfl _).drew), by rw [H5.out]; simp only [HVV.out]⟩
      have HK2 := Lib.hid hK2; have HE2 := Lib.hid he2; have HP := Lib.hid hp; clear hK2 he2 hp hD1
      go_wp2_with fail
      go_region
      all_goals go_wp2_with fail
      all_goals exact near_end HK2.out ⟨rfl, rfl, rfl⟩ HE2.out HP.out
  · rintro D i c C W' hD hi ⟨rfl, h1, f, far, e, h5, h4⟩ hO hK
    have cm := cell_of_heap h4.m 0
    have ce := cell_of_heap h4.e 0
    have cf := cell_of_heap h4.f 0
    have fe := free_of_heap h4.e 0
    simp only [List.getElem?_toArray, List.getElem?_cons_zero] at cm ce cf
    have cth : W'.cell? ⟨mb, 5, none⟩ = some (.map (some tb)) := cell_of_heap (h4.mb.trans hM2.cells) 5
    have htb := hM2.things.of_heap h4.tb
    have hlk := (htb.of_heap (w' := W'.drew) rfl).look keys_str Tryz.underlying55 e (zero_string W'.drew) false
    simp only [Bool.false_eq_true, if_false] at hlk
    have hval : ((mlook e T).map str).getD (str []) = .string ⟨((mlook e T).getD []).toArray⟩ := by cases mlook e T <;> rfl
    have hlk2 := (htb.of_heap (w' := (W'.setCell ⟨w.heap.size + 1, 0, none⟩ (.string ⟨e.toArray⟩)).drew) (Below.heap_setCell _ _ _ _ (by simp; omega))).look keys_str Tryz.underlying55 e (zero_string (W'.setCell ⟨w.heap.size + 1, 0, none⟩ (.string ⟨e.toArray⟩)).drew) false
    simp only [Bool.false_eq_true, if_false] at hlk2
    rw [hval] at hlk hlk2
    unfold str at hlk hlk2
    generalize hvv : (mlook e T).getD [] = vv at hlk hlk2
    have hbel : ∀ W5 : World, Only (fun k => k = w.heap.size + 1) W' W5 → Below w.heap.size w (W5.putObj D (.deferred none)) := fun W5 h5 => by
      have z := hB02.size
      refine hB02.trans ((hO.trans (h5.mono (fun k hk => .inl ((hc0 k).2 (by omega))))).trans (only_putObj W5 (.inr (by omega)) _) |>.below_of ?_)
      rintro k (hk | hk)
      · have := (hc0 k).1 hk; omega
      · omega
    have HBEL := Lib.hid hbel; have H4 := Lib.hid h4; have HK := Lib.hid hK; have H5 := Lib.hid h5; have HVV := Lib.hid hvv; have HOO := Lib.hid hO
    clear hbel h4 hK h5 hvv htb hval hO
    cases f with
    | false =>
      have hD1 : D ≠ w.heap.size + 1 := by have := hB02.size; have := HS2.out; have := HS1.out; omega
      have hK2 : (W'.setCell ⟨w.heap.size + 1, 0, none⟩ (.string ⟨#[]⟩)).heap[D]? = some (.deferred (some [])) := (Below.heap_setCell _ _ _ _ hD1).trans HK.out
      have he2 : (W'.setCell ⟨w.heap.size + 1, 0, none⟩ (.string ⟨#[]⟩)).heap[w.heap.size + 1]? = some (.cells #[.string ⟨#[]⟩] 9) := by
        rw [heap_setCell_same _ _ _ _ _ _ H4.out.e]; rfl
      have hp : NearPost T xs w (.returned (.tuple #[.string ⟨#[]⟩, .string ⟨#[]⟩, .int .i64 3])) ((W'.setCell ⟨w.heap.size + 1, 0, none⟩ (.string ⟨#[]⟩)).putObj D (.deferred none)) :=
        ⟨HBEL.out _ ((Only.refl (fun k => k = w.heap.size + 1) _).setCell (p := ⟨w.heap.size + 1, 0, none⟩) rfl _), by rw [H5.out]⟩
      have HK2 := Lib.hid hK2; have HE2 := Lib.hid he2; have HP := Lib.hid hp; clear hK2 he2 hp hD1
      go_wp2_with fail
      exact near_end (x := []) HK2.out ⟨rfl, rfl, rfl⟩ HE2.out HP.out
    | true =>
      have hD1 : D ≠ w.heap.size + 1 := by have := hB02.size; have := HS2.out; have := HS1.out; omega
      have hK2 : (W'.setCell ⟨w.heap.size + 1, 0, none⟩ (.string ⟨e.toArray⟩)).drew.heap[D]? = some (.deferred (some [])) := (Below.heap_setCell _ _ _ _ hD1).trans HK.out
      have he2 : (W'.setCell ⟨w.heap.size + 1, 0, none⟩ (.string ⟨e.toArray⟩)).drew.heap[w.heap.size + 1]? = some (.cells #[.string ⟨e.toArray⟩] 9) := by
        rw [show ∀ x : World, x.drew.heap = x.heap from fun _ => rfl, heap_setCell_same _ _ _ _ _ _ H4.out.e]; rfl
      have hp : NearPost T xs w (.returned (.tuple #[.string ⟨e.toArray⟩, .string ⟨vv.toArray⟩, .int .i64 0])) ((W'.setCell ⟨w.heap.size + 1, 0, none⟩ (.string ⟨e.toArray⟩)).drew.putObj D (.deferred none)) :=
        ⟨HBEL.out _ (((Only.refl (fun k => k = w.heap.size + 1) _).setCell (p := ⟨w.heap.size + 1, 0, none⟩) rfl _).drew), by rw [H5.out]; simp only [HVV.out]⟩
      have HK2 := Lib.hid hK2; have HE2 := Lib.hid he2; have HP := Lib.hid hp; clear hK2 he2 hp hD1
      go_wp2_with fail
      go_region
      all_goals go_wp2_with fail
      all_goals exact near_end HK2.out ⟨rfl, rfl, rfl⟩ HE2.out HP.out
end Go.Proofs.YtbfnnlcckpabnaaGreat
