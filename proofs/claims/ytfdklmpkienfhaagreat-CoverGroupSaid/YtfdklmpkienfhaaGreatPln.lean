/- Laws for regions that draw their order: pure operations in any order, segments, plans. Over any program. -/
import Derived.Test.YtfdklmpkienfhaaGreatLds
import Derived.OrdersIn
import Derived.TacticsIn
import Derived.OwnWalkIn
import Derived.RangeFuncCalls

/- A region that draws its order: pure operations picked from anywhere in it, then operations of one order, then a tail. Over any program. Turned from XLds. -/
namespace Go.Proofs.YtfdklmpkienfhaaGreat
set_option linter.unusedSimpArgs false
set_option linter.unusedVariables false

section
variable {P : Program} {ops : Array Oper} {md : Region.Mode} {C : World → Prop}

def seqL (md : Region.Mode) (ops : Array Oper) (n : Nat) : List Nat → Array Bool → Bool
  | [], listed => Region.seqB md ops (ops.size - n) n listed
  | k :: ks, listed => decide (Region.ready md ops listed = [k]) && decide (k < n) && seqL md ops n ks (listed.setIfInBounds k true)
def pickL (md : Region.Mode) (ops : Array Oper) (n : Nat) (ms : List Nat) : List Nat → Array Bool → Bool
  | [], listed => seqL md ops n ms listed
  | k :: ks, listed => (Region.ready md ops listed).contains k && Region.free md ops listed k && decide (k < n) && pickL md ops n ms ks (listed.setIfInBounds k true)

theorem wpAnyG_seqL {n : Nat} {Lq : Act → World → Prop} : ∀ (ms : List Nat) (l : List Oper) (listed : Array Bool) (a : Act) (w : World), ms.map (fun k => ops[k]?) = l.map some →
    seqL md ops n ms listed = true → wpG P ops C Lq l a w →
    wpAnyG P md ops C n (fun listed' a' w' => Region.seqB md ops (ops.size - n) n listed' = true ∧ Lq a' w') ms.length listed a w
  | [], l, listed, a, w, hl, hB, h => by
    have : l = [] := by simpa using hl.symm
    subst this
    exact ⟨by simpa [seqL] using hB, h⟩
  | k :: ms, [], listed, a, w, hl, hB, h => by simp at hl
  | k :: ms, o :: l, listed, a, w, hl, hB, h => by
    simp only [List.map_cons, List.cons.injEq] at hl
    obtain ⟨h0, hl⟩ := hl
    simp only [seqL, Bool.and_eq_true, decide_eq_true_eq] at hB
    obtain ⟨⟨hr, hkn⟩, hB⟩ := hB
    rw [List.length_cons]
    refine ⟨fun h1 => (by rw [hr] at h1; cases h1), fun i hi => ?_⟩
    rw [hr] at hi
    have hik : i = k := by simpa using hi
    subst hik
    refine ⟨hkn, ?_⟩
    have hw : gOp P ops C i (wpG P ops C Lq l) a w := by unfold gOp; simp only [h0]; exact h
    have step : ∀ a w, wpG P ops C Lq l a w → wpAnyG P md ops C n (fun listed' a' w' => Region.seqB md ops (ops.size - n) n listed' = true ∧ Lq a' w') ms.length (listed.setIfInBounds i true) a w := fun a' w' h' =>
      wpAnyG_seqL ms l _ a' w' hl hB h'
    unfold gOp at hw ⊢
    simp only [h0] at hw ⊢
    split
    · rename_i hwn; simp only [hwn, if_true] at hw; exact Oper.wp_mono (fun a w hk => ⟨hk.1, step _ _ hk.2⟩) hw
    · rename_i hwn; simp only [hwn] at hw; exact step _ _ hw

theorem wpAnyG_pickL {n : Nat} {Lq : Act → World → Prop} {ms : List Nat} {mid : List Oper} (hsel : Region.noSelect ops = true) (hs : Region.sinkB md ops n = true) (hc : Region.chainB md ops n = true) (hn : n < ops.size) (hmid : ms.map (fun k => ops[k]?) = mid.map some) :
    ∀ (ps : List Nat) (l : List Oper) (listed : Array Bool) (a : Act) (w : World), ps.map (fun k => ops[k]?) = l.map some → (∀ o ∈ l, pureOp o.op = true) → HeadInv md ops n listed →
    pickL md ops n ms ps listed = true → C w → wpQuiet P ops C (fun a' => wpG P ops C Lq mid a' w) l a →
    wpAnyG P md ops C n (fun listed' a' w' => Region.seqB md ops (ops.size - n) n listed' = true ∧ Lq a' w') (ps.length + ms.length) listed a w
  | [], l, listed, a, w, hl, hp, inv, hB, hC, h => by
    have : l = [] := by simpa using hl.symm
    subst this
    rw [List.length_nil, Nat.zero_add]
    exact wpAnyG_seqL ms mid listed a w hmid (by simpa [pickL] using hB) h
  | k :: ps, [], listed, a, w, hl, hp, inv, hB, hC, h => by simp at hl
  | k :: ps, o :: l, listed, a, w, hl, hp, inv, hB, hC, h => by
    simp only [List.map_cons, List.cons.injEq] at hl
    obtain ⟨h0, hl⟩ := hl
    simp only [pickL, Bool.and_eq_true, decide_eq_true_eq] at hB
    obtain ⟨⟨⟨hr, hf⟩, hkn⟩, hB'⟩ := hB
    have hr' : k ∈ Region.ready md ops listed := by simpa using hr
    obtain ⟨v, hy, hK⟩ := pure_of_quiet (hp o List.mem_cons_self) h
    rw [List.length_cons, show ps.length + 1 + ms.length = (ps.length + ms.length) + 1 by omega]
    exact wpAnyG_first h0 (Region.noSelect_spec hsel) hs hc hn hkn (fun listed' a' w' hL => seqB_ready hL.1) (ps.length + ms.length) listed a w inv (Region.free_spec h0 hf) hr' hy hC
      (wpAnyG_pickL hsel hs hc hn hmid ps l _ _ w hl (fun o ho => hp o (List.mem_cons_of_mem _ ho)) (inv.set hr' hkn) hB' hC hK)

/-- May the law be used? -/
def picksB (md : Region.Mode) (ops : Array Oper) (ps ms : List Nat) (n : Nat) : Bool :=
  Region.noSelect ops && decide (n < ops.size) && decide (ps.length + ms.length = n) && Region.sinkB md ops n && Region.chainB md ops n && pickL md ops n ms ps (Array.replicate ops.size false) && ps.all (fun k => match ops[k]? with | some o => pureOp o.op | none => false)

/-- **Picked operations ahead.** -/
theorem wp_region_picks {id : Nat} {Q : Exit → Act → World → Prop} {a : Act} {w : World} {l : List Oper} (ps ms : List Nat) (n : Nat) (lp lm : List Oper) (C : World → Prop) (hC : C w.drew) (hm : P.follows .mixedOrders = true) (hB : picksB .any l.toArray ps ms n = true)
    (hlp : ps.map (fun k => l.toArray[k]?) = lp.map some) (hlm : ms.map (fun k => l.toArray[k]?) = lm.map some)
    (h : wpQuiet P l.toArray C (fun a' => wpG P l.toArray C (fun a'' w'' => wpList P l.toArray Q (l.drop n) a'' w'') lm a' w.drew) lp a) : (Code.region id l.toArray true).wp P Q a w := by
  simp only [picksB, Bool.and_eq_true, decide_eq_true_eq] at hB
  obtain ⟨⟨⟨⟨⟨⟨hsel, hn⟩, hln⟩, hs⟩, hc⟩, hlex⟩, hpure⟩ := hB
  have hdl : (l.drop n).length = l.toArray.size - n := by simp
  have inv0 : HeadInv .any l.toArray n (Array.replicate l.toArray.size false) :=
    ⟨by simp, fun j oj _ hl => (by rw [getD_replicate_false] at hl; cases hl), fun t _ ht => getD_in (by simpa using ht) (getD_replicate_false _ _)⟩
  have hp : ∀ o ∈ lp, pureOp o.op = true := fun o ho => by
    have h1 : some o ∈ ps.map (fun k => l.toArray[k]?) := by rw [hlp]; exact List.mem_map.2 ⟨o, ho, rfl⟩
    obtain ⟨k, hk, e⟩ := List.mem_map.1 h1
    have h2 := List.all_eq_true.1 hpure k hk
    rw [e] at h2
    exact h2
  have H := wpAnyG_pickL (P := P) (C := C) (md := .any) (ops := l.toArray) (n := n) (Lq := fun a'' w'' => wpList P l.toArray Q (l.drop n) a'' w'') hsel hs hc hn hlm ps lp _ a w.drew hlp hp inv0 hlex hC h
  refine wp_region_any hm ?_
  have := wpAny_of_G (Q' := Q) (g := l.toArray.size - n) (fun listed a' w' _ hL => by
    have := wpAny_of_seq (md := .any) (Q' := Q) (l.drop n) n listed a' w' (fun j => by simp [List.getElem?_drop]) (by rw [hdl]; exact hL.1) hL.2
    rwa [hdl] at this) _ _ _ _ hC H
  rw [hln, show n + (l.toArray.size - n) = l.toArray.size by omega] at this
  exact this

theorem map_filterMap {ps : List Nat} {l : List Oper} (h : ps.all (fun k => (l[k]?).isSome) = true) : ps.map (fun k => l.toArray[k]?) = (ps.flatMap fun k => (l.drop k).take 1).map some := by
  induction ps with
  | nil => rfl
  | cons k ps ih =>
    simp only [List.all_cons, Bool.and_eq_true] at h
    obtain ⟨o, ho⟩ := Option.isSome_iff_exists.1 h.1
    have h2 := ih h.2
    have h3 : (l.drop k).take 1 = [o] := by
      obtain ⟨hk, e⟩ := List.getElem?_eq_some_iff.1 ho
      rw [List.drop_eq_getElem_cons hk, e]
      rfl
    simp only [List.map_cons, List.flatMap_cons, h3, List.cons_append, List.nil_append, List.getElem?_toArray, ho] at h2 ⊢
    rw [← h2]

/-- .. with the lists taken from the region's text. -/
theorem wp_region_pick {id : Nat} {Q : Exit → Act → World → Prop} {a : Act} {w : World} {l : List Oper} (ps ms : List Nat) (n : Nat) (C : World → Prop) (hC : C w.drew) (hm : P.follows .mixedOrders = true)
    (hB : (picksB .any l.toArray ps ms n && ps.all (fun k => (l[k]?).isSome) && ms.all (fun k => (l[k]?).isSome)) = true)
    (h : wpQuiet P l.toArray C (fun a' => wpG P l.toArray C (fun a'' w'' => wpList P l.toArray Q (l.drop n) a'' w'') (ms.flatMap fun k => (l.drop k).take 1) a' w.drew) (ps.flatMap fun k => (l.drop k).take 1) a) : (Code.region id l.toArray true).wp P Q a w := by
  simp only [Bool.and_eq_true] at hB
  exact wp_region_picks ps ms n _ _ C hC hm hB.1.1 (map_filterMap hB.1.2) (map_filterMap hB.2) h
end

/-- A later world: only new blocks and those of B have changed. -/
structure LaterB (B : Nat → Prop) (w : World) where
  W : World
  h : Only (fun k => B k ∨ w.heap.size ≤ k) w W
instance (B : Nat → Prop) (w : World) : Inhabited (LaterB B w) := ⟨⟨w, Only.refl _ _⟩⟩
theorem LaterB.cell {B : Nat → Prop} {w : World} (y : LaterB B w) (b o : Nat) (h1 : b < w.heap.size) (h2 : ¬ B b) : y.W.cell? ⟨b, o, none⟩ = w.cell? ⟨b, o, none⟩ :=
  World.cell?_of_block (w := w) (a := ⟨b, o, none⟩) (y.h.block b (by rintro (h | h); (· exact h2 h); (· omega)))
end Go.Proofs.YtfdklmpkienfhaaGreat

/- A region that draws its order, in segments: pure operations in any order, then operations of one order, and again; then a tail. Over any program. -/
namespace Go.Proofs.YtfdklmpkienfhaaGreat
set_option linter.unusedSimpArgs false
set_option linter.unusedVariables false

def setAll (ks : List Nat) (listed : Array Bool) : Array Bool := ks.foldl (fun s k => s.setIfInBounds k true) listed
def seqOk (md : Region.Mode) (ops : Array Oper) (n : Nat) : List Nat → Array Bool → Bool
  | [], _ => true
  | k :: ks, listed => decide (Region.ready md ops listed = [k]) && decide (k < n) && seqOk md ops n ks (listed.setIfInBounds k true)
def pickOk (md : Region.Mode) (ops : Array Oper) (n : Nat) : List Nat → Array Bool → Bool
  | [], _ => true
  | k :: ks, listed => (Region.ready md ops listed).contains k && Region.free md ops listed k && decide (k < n) && pickOk md ops n ks (listed.setIfInBounds k true)
def segOk (md : Region.Mode) (ops : Array Oper) (n : Nat) : List (List Nat × List Nat) → Array Bool → Bool
  | [], listed => Region.seqB md ops (ops.size - n) n listed
  | s :: r, listed => pickOk md ops n s.1 listed && seqOk md ops n s.2 (setAll s.1 listed) && segOk md ops n r (setAll s.2 (setAll s.1 listed))
def pickOps (l : List Oper) (ks : List Nat) : List Oper := ks.flatMap fun k => (l.drop k).take 1

/-- The segments, one after the other. -/
def wpSegs (P : Program) (ops : Array Oper) (C : World → Prop) (Q : Act → World → Prop) : List (List Oper × List Oper) → Act → World → Prop
  | [], a, w => Q a w
  | s :: r, a, w => wpQuiet P ops C (fun a' => wpG P ops C (fun a'' w'' => wpSegs P ops C Q r a'' w'') s.2 a' w) s.1 a

section
variable {P : Program} {ops : Array Oper} {md : Region.Mode} {C : World → Prop}

theorem mixK_seq {n f : Nat} {L : Array Bool → Act → World → Prop} {Lk : Act → World → Prop} : ∀ (ms : List Nat) (l : List Oper) (listed : Array Bool) (a : Act) (w : World), ms.map (fun k => ops[k]?) = l.map some →
    seqOk md ops n ms listed = true → HeadInv md ops n listed → (HeadInv md ops n (setAll ms listed) → ∀ a' w', C w' → Lk a' w' → wpAnyG P md ops C n L f (setAll ms listed) a' w') → C w → wpG P ops C Lk l a w →
    wpAnyG P md ops C n L (ms.length + f) listed a w
  | [], l, listed, a, w, hl, hB, inv, hK, hC, h => by
    have : l = [] := by simpa using hl.symm
    subst this
    rw [List.length_nil, Nat.zero_add]
    exact hK inv a w hC h
  | k :: ms, [], listed, a, w, hl, hB, inv, hK, hC, h => by simp at hl
  | k :: ms, o :: l, listed, a, w, hl, hB, inv, hK, hC, h => by
    simp only [List.map_cons, List.cons.injEq] at hl
    obtain ⟨h0, hl⟩ := hl
    simp only [seqOk, Bool.and_eq_true, decide_eq_true_eq] at hB
    obtain ⟨⟨hr, hkn⟩, hB⟩ := hB
    have hr' : k ∈ Region.ready md ops listed := by rw [hr]; simp
    rw [List.length_cons, show ms.length + 1 + f = (ms.length + f) + 1 by omega]
    refine ⟨fun h1 => (by rw [hr] at h1; cases h1), fun i hi => ?_⟩
    rw [hr] at hi
    have hik : i = k := by simpa using hi
    subst hik
    refine ⟨hkn, ?_⟩
    have hw : gOp P ops C i (wpG P ops C Lk l) a w := by unfold gOp; simp only [h0]; exact h
    have step : ∀ a w, C w → wpG P ops C Lk l a w → wpAnyG P md ops C n L (ms.length + f) (listed.setIfInBounds i true) a w := fun a' w' hC' h' =>
      mixK_seq ms l _ a' w' hl hB (inv.set hr' hkn) hK hC' h'
    exact gOp_mono hC step hw

theorem mixK_pick {n f : Nat} {Lq : Act → World → Prop} {Lk : Act → Prop} (hsel : Region.noSelect ops = true) (hs : Region.sinkB md ops n = true) (hc : Region.chainB md ops n = true) (hn : n < ops.size) {w : World} :
    ∀ (ps : List Nat) (l : List Oper) (listed : Array Bool) (a : Act), ps.map (fun k => ops[k]?) = l.map some → (∀ o ∈ l, pureOp o.op = true) → HeadInv md ops n listed →
    pickOk md ops n ps listed = true → C w → (HeadInv md ops n (setAll ps listed) → ∀ a', Lk a' → wpAnyG P md ops C n (fun listed' a' w' => Region.seqB md ops (ops.size - n) n listed' = true ∧ Lq a' w') f (setAll ps listed) a' w) → wpQuiet P ops C Lk l a →
    wpAnyG P md ops C n (fun listed' a' w' => Region.seqB md ops (ops.size - n) n listed' = true ∧ Lq a' w') (ps.length + f) listed a w
  | [], l, listed, a, hl, hp, inv, hB, hC, hK, h => by
    have : l = [] := by simpa using hl.symm
    subst this
    rw [List.length_nil, Nat.zero_add]
    exact hK inv a h
  | k :: ps, [], listed, a, hl, hp, inv, hB, hC, hK, h => by simp at hl
  | k :: ps, o :: l, listed, a, hl, hp, inv, hB, hC, hK, h => by
    simp only [List.map_cons, List.cons.injEq] at hl
    obtain ⟨h0, hl⟩ := hl
    simp only [pickOk, Bool.and_eq_true, decide_eq_true_eq] at hB
    obtain ⟨⟨⟨hr, hf⟩, hkn⟩, hB'⟩ := hB
    have hr' : k ∈ Region.ready md ops listed := by simpa using hr
    obtain ⟨v, hy, hKq⟩ := pure_of_quiet (hp o List.mem_cons_self) h
    rw [List.length_cons, show ps.length + 1 + f = (ps.length + f) + 1 by omega]
    exact wpAnyG_first h0 (Region.noSelect_spec hsel) hs hc hn hkn (fun listed' a' w' hL => seqB_ready hL.1) (ps.length + f) listed a w inv (Region.free_spec h0 hf) hr' hy hC
      (mixK_pick hsel hs hc hn ps l _ _ hl (fun o ho => hp o (List.mem_cons_of_mem _ ho)) (inv.set hr' hkn) hB' hC hK hKq)

def segLen (segs : List (List Nat × List Nat)) : Nat := segs.foldr (fun s n => s.1.length + (s.2.length + n)) 0

theorem wpAnyG_segs {n : Nat} {l : List Oper} {Lq : Act → World → Prop} (hops : ops = l.toArray) (hsel : Region.noSelect ops = true) (hs : Region.sinkB md ops n = true) (hc : Region.chainB md ops n = true) (hn : n < ops.size) :
    ∀ (segs : List (List Nat × List Nat)) (listed : Array Bool) (a : Act) (w : World), segs.all (fun s => s.1.all (fun k => (l[k]?).isSome) && s.2.all (fun k => (l[k]?).isSome) && s.1.all (fun k => match ops[k]? with | some o => pureOp o.op | none => false)) = true →
    HeadInv md ops n listed → segOk md ops n segs listed = true → C w → wpSegs P ops C Lq (segs.map fun s => (pickOps l s.1, pickOps l s.2)) a w →
    wpAnyG P md ops C n (fun listed' a' w' => Region.seqB md ops (ops.size - n) n listed' = true ∧ Lq a' w') (segLen segs) listed a w
  | [], listed, a, w, ha, inv, hB, hC, h => ⟨by simpa [segOk] using hB, h⟩
  | s :: r, listed, a, w, ha, inv, hB, hC, h => by
    simp only [List.all_cons, Bool.and_eq_true] at ha
    obtain ⟨⟨⟨h1, h2⟩, h3⟩, ha⟩ := ha
    simp only [segOk, Bool.and_eq_true] at hB
    obtain ⟨⟨hB1, hB2⟩, hB3⟩ := hB
    have hlp : s.1.map (fun k => ops[k]?) = (pickOps l s.1).map some := by rw [hops]; exact map_filterMap h1
    have hlm : s.2.map (fun k => ops[k]?) = (pickOps l s.2).map some := by rw [hops]; exact map_filterMap h2
    have hp : ∀ o ∈ pickOps l s.1, pureOp o.op = true := fun o ho => by
      have h4 : some o ∈ s.1.map (fun k => ops[k]?) := by rw [hlp]; exact List.mem_map.2 ⟨o, ho, rfl⟩
      obtain ⟨k, hk, e⟩ := List.mem_map.1 h4
      have h5 := List.all_eq_true.1 h3 k hk
      rw [e] at h5
      exact h5
    have hlen : segLen (s :: r) = s.1.length + (s.2.length + segLen r) := rfl
    rw [hlen]
    simp only [List.map_cons, wpSegs] at h
    exact mixK_pick (f := s.2.length + segLen r) (Lk := fun a' => wpG P ops C (fun a'' w'' => wpSegs P ops C Lq (r.map fun s => (pickOps l s.1, pickOps l s.2)) a'' w'') (pickOps l s.2) a' w) hsel hs hc hn s.1 (pickOps l s.1) listed a hlp hp inv hB1 hC
      (fun inv1 a1 hk1 => mixK_seq (f := segLen r) s.2 (pickOps l s.2) _ a1 w hlm hB2 inv1
        (fun inv2 a2 w2 hC2 hk2 => wpAnyG_segs hops hsel hs hc hn r _ a2 w2 ha inv2 hB3 hC2 hk2) hC hk1) h

/-- May the law be used? -/
def segsB (l : List Oper) (segs : List (List Nat × List Nat)) (n : Nat) : Bool :=
  Region.noSelect l.toArray && decide (n < l.toArray.size) && decide (segLen segs = n) && Region.sinkB .any l.toArray n && Region.chainB .any l.toArray n && segOk .any l.toArray n segs (Array.replicate l.toArray.size false) &&
    segs.all (fun s => s.1.all (fun k => (l[k]?).isSome) && s.2.all (fun k => (l[k]?).isSome) && s.1.all (fun k => match l.toArray[k]? with | some o => pureOp o.op | none => false))

/-- **Segments.** -/
theorem wp_region_segs {id : Nat} {Q : Exit → Act → World → Prop} {a : Act} {w : World} {l : List Oper} (segs : List (List Nat × List Nat)) (n : Nat) (C : World → Prop) (hC : C w.drew) (hm : P.follows .mixedOrders = true) (hB : segsB l segs n = true)
    (h : wpSegs P l.toArray C (fun a'' w'' => wpList P l.toArray Q (l.drop n) a'' w'') (segs.map fun s => (pickOps l s.1, pickOps l s.2)) a w.drew) : (Code.region id l.toArray true).wp P Q a w := by
  simp only [segsB, Bool.and_eq_true, decide_eq_true_eq] at hB
  obtain ⟨⟨⟨⟨⟨⟨hsel, hn⟩, hln⟩, hs⟩, hc⟩, hlex⟩, hall⟩ := hB
  have hdl : (l.drop n).length = l.toArray.size - n := by simp
  have inv0 : HeadInv .any l.toArray n (Array.replicate l.toArray.size false) :=
    ⟨by simp, fun j oj _ hl => (by rw [getD_replicate_false] at hl; cases hl), fun t _ ht => getD_in (by simpa using ht) (getD_replicate_false _ _)⟩
  have H := wpAnyG_segs (P := P) (C := C) (md := .any) (n := n) (l := l) (Lq := fun a'' w'' => wpList P l.toArray Q (l.drop n) a'' w'') rfl hsel hs hc hn segs _ a w.drew hall inv0 hlex hC h
  refine wp_region_any hm ?_
  have := wpAny_of_G (Q' := Q) (g := l.toArray.size - n) (fun listed a' w' _ hL => by
    have := wpAny_of_seq (md := .any) (Q' := Q) (l.drop n) n listed a' w' (fun j => by simp [List.getElem?_drop]) (by rw [hdl]; exact hL.1) hL.2
    rwa [hdl] at this) _ _ _ _ hC H
  rw [hln, show n + (l.toArray.size - n) = l.toArray.size by omega] at this
  exact this
end
end Go.Proofs.YtfdklmpkienfhaaGreat

/- A region in segments that draws its order, inside a fence that lets everything by (plain, or in a round of a range over a function); its tail may call yield. -/
namespace Go.Proofs.YtfdklmpkienfhaaGreat
set_option linter.unusedSimpArgs false
set_option linter.unusedVariables false

/-- The two fences that shut nothing out. -/
def Open (F : Fence) : Prop := F = Fence.wide ∨ ∃ l, F = Fence.wide.inRound l
theorem Open.wide : Open Fence.wide := .inl rfl
theorem Open.round (l : Nat) : Open (Fence.wide.inRound l) := .inr ⟨l, rfl⟩

section
variable {P : Program} {ops : Array Oper} {md : Region.Mode} {C : World → Prop} {F : Fence}

theorem Open.fn (hF : Open F) (f : FuncId) : F.fn f := by
  rcases hF with rfl | ⟨l, rfl⟩
  · trivial
  · trivial
theorem Open.deep (hF : Open F) : ¬ F.depth.isSome = true := by
  rcases hF with rfl | ⟨l, rfl⟩
  · simp [Fence.wide]
  · simp [Fence.wide]
theorem Open.calls (hF : Open F) {f : FuncId} {args : Array Value} {w : World} {R : Ending → World → Prop} (h : Calls P f args w R) : CallsIn F 0 P f args w R := by
  rcases hF with rfl | ⟨l, rfl⟩
  · exact callsIn_wide.2 h
  · exact CallsIn.inRound l (callsIn_wide.2 h)
theorem Open.op (hF : Open F) {o : Oper} {a : Act} {w : World} {K : Act → World → Prop} {Q : Exit → Act → World → Prop} (hd : ∀ c, o.op ≠ .defer c) (h : o.wp P a w K Q) : o.wpIn F 0 P a w K Q := by
  unfold Oper.wp at h
  unfold Oper.wpIn
  refine ⟨fun f _ => hF.fn f, ?_⟩
  rw [Oper.semAt_plain F _ o hd]
  generalize (execOp a.eval o).run P w = r at *
  cases r with
  | ok n w' =>
    cases n <;> simp only [Oper.upon] at h
    case value => exact h
    case skip => exact h
    case defer => exact h
    case enter f args => exact ⟨fun h => absurd h hF.deep, hF.calls h⟩
    case row r args =>
      refine ⟨fun h => absurd h hF.deep, fun c cs hcs => ?_⟩
      obtain ⟨v, w2, h1, h2⟩ := h c cs
      exact ⟨v, w2, h1, by
        rcases hF with rfl | ⟨l, rfl⟩
        · exact stepsIn_wide.2 h2
        · exact stepsIn_wide.2 h2⟩
  | halt x w' =>
    cases x <;> simp only [Oper.upon] at h
    case panic => exact h

theorem wpOpIn_of_gOp (hF : Open F) {i : Nat} (hd : ∀ (o : Oper), ops[i]? = some o → ∀ c, o.op ≠ .defer c) {a : Act} {w : World} {K K' : Act → World → Prop} {Q' : Exit → Act → World → Prop} (hC : C w) (h : ∀ a w, C w → K a w → K' a w) (hh : gOp P ops C i K a w) : wpOpIn F 0 P ops Q' i K' a w := by
  unfold gOp at hh
  unfold wpOpIn
  split
  · rename_i ho; simp only [ho] at hh; exact h _ _ hC hh
  · rename_i o ho
    simp only [ho] at hh
    split
    · rename_i hw; simp only [hw, if_true] at hh; exact hF.op (hd o ho) (wp_noQ (Oper.wp_mono (fun a w hk => h _ _ hk.1 hk.2) hh))
    · rename_i hw; simp only [hw] at hh; exact ⟨fun f _ => hF.fn f, h _ _ hC hh⟩

theorem wpAnyIn_of_G (hF : Open F) (hd : ∀ (j : Nat) (o : Oper), ops[j]? = some o → ∀ c, o.op ≠ .defer c) {n g : Nat} {L : Array Bool → Act → World → Prop} {Q' : Exit → Act → World → Prop} (hL : ∀ listed a w, C w → L listed a w → wpAnyIn F 0 P md ops Q' g listed a w) :
    ∀ (f : Nat) (listed : Array Bool) (a : Act) (w : World), C w → wpAnyG P md ops C n L f listed a w → wpAnyIn F 0 P md ops Q' (f + g) listed a w
  | 0, listed, a, w, hC, h => by rw [Nat.zero_add]; exact hL _ _ _ hC h
  | f + 1, listed, a, w, hC, h => by
    rw [show f + 1 + g = (f + g) + 1 by omega]
    exact ⟨fun h0 => absurd h0 h.1, fun i hi => wpOpIn_of_gOp hF (hd i) hC (fun a' w' hC' h' => wpAnyIn_of_G hF hd hL f _ a' w' hC' h') (h.2 i hi).2⟩

theorem wpAnyIn_of_seq {n : Nat} {Q' : Exit → Act → World → Prop} : ∀ (l : List Oper) (k : Nat) (listed : Array Bool) (a : Act) (w : World), (∀ j, l[j]? = ops[k + j]?) →
    Region.seqB md ops l.length k listed = true → wpListIn F n P ops Q' l a w → wpAnyIn F n P md ops Q' l.length listed a w
  | [], _, _, _, _, _, hB, h => ⟨by simpa [Region.seqB] using hB, h⟩
  | o :: l, k, listed, a, w, hl, hB, h => by
    have h0 : ops[k]? = some o := by simpa using (hl 0).symm
    simp only [List.length_cons, Region.seqB, Bool.and_eq_true, decide_eq_true_eq] at hB
    refine ⟨fun h1 => (by rw [hB.1] at h1; cases h1), fun i hi => ?_⟩
    rw [hB.1] at hi
    have hik : i = k := by simpa using hi
    subst hik
    have hw : wpOpIn F n P ops Q' i (wpListIn F n P ops Q' l) a w := by unfold wpOpIn; simp only [h0]; exact h
    exact wpOpIn_mono (fun a' w' h' => wpAnyIn_of_seq l (i + 1) _ a' w' (fun j => by have := hl (j + 1); simpa [Nat.add_assoc, Nat.add_comm 1 j] using this) hB.2 h') hw

/-- Is it no defer statement? -/
def noDefers (l : List Oper) : Bool := l.all fun o => match o.op with | .defer _ => false | _ => true
theorem noDefers_spec {l : List Oper} (h : noDefers l = true) : ∀ (j : Nat) (o : Oper), l.toArray[j]? = some o → ∀ c, o.op ≠ .defer c := by
  intro j o ho c hc
  have := List.all_eq_true.1 h o (by
    rw [List.getElem?_toArray] at ho
    exact List.mem_of_getElem? ho)
  rw [hc] at this
  cases this

/-- **Segments, inside a fence.** -/
theorem wpIn_region_segs (hF : Open F) {id : Nat} {Q : Exit → Act → World → Prop} {a : Act} {w : World} {l : List Oper} (segs : List (List Nat × List Nat)) (n : Nat) (C : World → Prop) (hC : C w.drew) (hm : P.follows .mixedOrders = true) (hB : (segsB l segs n && noDefers l) = true)
    (h : wpSegs P l.toArray C (fun a'' w'' => wpListIn F 0 P l.toArray Q (l.drop n) a'' w'') (segs.map fun s => (pickOps l s.1, pickOps l s.2)) a w.drew) : (Code.region id l.toArray true).wpIn F 0 P Q a w := by
  simp only [Bool.and_eq_true] at hB
  obtain ⟨hB, hnd⟩ := hB
  simp only [segsB, Bool.and_eq_true, decide_eq_true_eq] at hB
  obtain ⟨⟨⟨⟨⟨⟨hsel, hn⟩, hln⟩, hs⟩, hc⟩, hlex⟩, hall⟩ := hB
  have hdl : (l.drop n).length = l.toArray.size - n := by simp
  have inv0 : HeadInv .any l.toArray n (Array.replicate l.toArray.size false) :=
    ⟨by simp, fun j oj _ hl => (by rw [getD_replicate_false] at hl; cases hl), fun t _ ht => getD_in (by simpa using ht) (getD_replicate_false _ _)⟩
  have H := wpAnyG_segs (P := P) (C := C) (md := .any) (n := n) (l := l) (Lq := fun a'' w'' => wpListIn F 0 P l.toArray Q (l.drop n) a'' w'') rfl hsel hs hc hn segs _ a w.drew hall inv0 hlex hC h
  refine wpIn_region_any hm ?_
  have := wpAnyIn_of_G (F := F) (Q' := Q) (g := l.toArray.size - n) hF (noDefers_spec hnd) (fun listed a' w' _ hL => by
    have := wpAnyIn_of_seq (F := F) (md := .any) (Q' := Q) (n := 0) (l.drop n) n listed a' w' (fun j => by simp [List.getElem?_drop]) (by rw [hdl]; exact hL.1) hL.2
    rwa [hdl] at this) _ _ _ _ hC H
  rw [hln, show n + (l.toArray.size - n) = l.toArray.size by omega] at this
  exact this
end
end Go.Proofs.YtfdklmpkienfhaaGreat

/- A region that draws its order, by a plan: pure operations in any order, operations of one order, and forks where two operations are ready. Over any program. -/
namespace Go.Proofs.YtfdklmpkienfhaaGreat
set_option linter.unusedSimpArgs false
set_option linter.unusedVariables false

inductive Plan
  | fin
  | pick (ks : List Nat) (p : Plan)
  | seq (ks : List Nat) (p : Plan)
  | fork (i : Nat) (p : Plan) (j : Nat) (q : Plan)

def planLen : Plan → Nat
  | .fin => 0
  | .pick ks p => ks.length + planLen p
  | .seq ks p => ks.length + planLen p
  | .fork _ p _ _ => planLen p + 1
def planOk (md : Region.Mode) (ops : Array Oper) (n : Nat) : Plan → Array Bool → Bool
  | .fin, listed => Region.seqB md ops (ops.size - n) n listed
  | .pick ks p, listed => pickOk md ops n ks listed && planOk md ops n p (setAll ks listed)
  | .seq ks p, listed => seqOk md ops n ks listed && planOk md ops n p (setAll ks listed)
  | .fork i p j q, listed => decide (Region.ready md ops listed = [i, j]) && decide (i < n) && decide (j < n) && decide (planLen p = planLen q) && planOk md ops n p (listed.setIfInBounds i true) && planOk md ops n q (listed.setIfInBounds j true)
/-- Its operations are there, and those that are picked are pure. -/
def planAll (l : List Oper) : Plan → Bool
  | .fin => true
  | .pick ks p => ks.all (fun k => (l[k]?).isSome) && ks.all (fun k => match l.toArray[k]? with | some o => pureOp o.op | none => false) && planAll l p
  | .seq ks p => ks.all (fun k => (l[k]?).isSome) && planAll l p
  | .fork i p j q => [i, j].all (fun k => (l[k]?).isSome) && planAll l p && planAll l q

def wpPlan (P : Program) (l : List Oper) (C : World → Prop) (Q : Act → World → Prop) : Plan → Act → World → Prop
  | .fin, a, w => Q a w
  | .pick ks p, a, w => wpQuiet P l.toArray C (fun a' => wpPlan P l C Q p a' w) (pickOps l ks) a
  | .seq ks p, a, w => wpG P l.toArray C (fun a' w' => wpPlan P l C Q p a' w') (pickOps l ks) a w
  | .fork i p j q, a, w => wpG P l.toArray C (fun a' w' => wpPlan P l C Q p a' w') (pickOps l [i]) a w ∧ wpG P l.toArray C (fun a' w' => wpPlan P l C Q q a' w') (pickOps l [j]) a w

section
variable {P : Program} {md : Region.Mode} {C : World → Prop}

theorem wpAnyG_plan {n : Nat} {l : List Oper} {Lq : Act → World → Prop} (hsel : Region.noSelect l.toArray = true) (hs : Region.sinkB md l.toArray n = true) (hc : Region.chainB md l.toArray n = true) (hn : n < l.toArray.size) :
    ∀ (p : Plan) (listed : Array Bool) (a : Act) (w : World), planAll l p = true → HeadInv md l.toArray n listed → planOk md l.toArray n p listed = true → C w → wpPlan P l C Lq p a w →
    wpAnyG P md l.toArray C n (fun listed' a' w' => Region.seqB md l.toArray (l.toArray.size - n) n listed' = true ∧ Lq a' w') (planLen p) listed a w
  | .fin, listed, a, w, ha, inv, hB, hC, h => ⟨by simpa [planOk] using hB, h⟩
  | .pick ks p, listed, a, w, ha, inv, hB, hC, h => by
    simp only [planAll, Bool.and_eq_true] at ha
    obtain ⟨⟨h1, h3⟩, ha⟩ := ha
    simp only [planOk, Bool.and_eq_true] at hB
    obtain ⟨hB1, hB2⟩ := hB
    have hlp : ks.map (fun k => l.toArray[k]?) = (pickOps l ks).map some := map_filterMap h1
    have hp : ∀ o ∈ pickOps l ks, pureOp o.op = true := fun o ho => by
      have h4 : some o ∈ ks.map (fun k => l.toArray[k]?) := by rw [hlp]; exact List.mem_map.2 ⟨o, ho, rfl⟩
      obtain ⟨k, hk, e⟩ := List.mem_map.1 h4
      have h5 := List.all_eq_true.1 h3 k hk
      rw [e] at h5
      exact h5
    simp only [wpPlan] at h
    exact mixK_pick (f := planLen p) (Lk := fun a' => wpPlan P l C Lq p a' w) hsel hs hc hn ks (pickOps l ks) listed a hlp hp inv hB1 hC
      (fun inv1 a1 hk1 => wpAnyG_plan hsel hs hc hn p _ a1 w ha inv1 hB2 hC hk1) h
  | .seq ks p, listed, a, w, ha, inv, hB, hC, h => by
    simp only [planAll, Bool.and_eq_true] at ha
    obtain ⟨h2, ha⟩ := ha
    simp only [planOk, Bool.and_eq_true] at hB
    obtain ⟨hB1, hB2⟩ := hB
    have hlm : ks.map (fun k => l.toArray[k]?) = (pickOps l ks).map some := map_filterMap h2
    simp only [wpPlan] at h
    exact mixK_seq (f := planLen p) ks (pickOps l ks) _ a w hlm hB1 inv (fun inv2 a2 w2 hC2 hk2 => wpAnyG_plan hsel hs hc hn p _ a2 w2 ha inv2 hB2 hC2 hk2) hC h
  | .fork i p j q, listed, a, w, ha, inv, hB, hC, h => by
    simp only [planAll, Bool.and_eq_true] at ha
    obtain ⟨⟨hij, hap⟩, haq⟩ := ha
    simp only [List.all_cons, List.all_nil, Bool.and_true, Bool.and_eq_true] at hij
    obtain ⟨hi0, hj0⟩ := hij
    simp only [planOk, Bool.and_eq_true, decide_eq_true_eq] at hB
    obtain ⟨⟨⟨⟨⟨hr, hin⟩, hjn⟩, hlen⟩, hBp⟩, hBq⟩ := hB
    simp only [wpPlan] at h
    have one : ∀ (k : Nat) (r : Plan), (l[k]?).isSome = true → wpG P l.toArray C (fun a' w' => wpPlan P l C Lq r a' w') (pickOps l [k]) a w → gOp P l.toArray C k (fun a' w' => wpPlan P l C Lq r a' w') a w := fun k r hk hg => by
      have hlm : [k].map (fun k => l.toArray[k]?) = (pickOps l [k]).map some := map_filterMap (by simp [hk])
      obtain ⟨o, ho⟩ := Option.isSome_iff_exists.1 hk
      have hop : pickOps l [k] = [o] := by
        obtain ⟨hkl, e⟩ := List.getElem?_eq_some_iff.1 ho
        simp only [pickOps, List.flatMap_cons, List.flatMap_nil, List.append_nil]
        rw [List.drop_eq_getElem_cons hkl, e]
        rfl
      rw [hop] at hg
      unfold gOp
      have ho' : l.toArray[k]? = some o := by rw [List.getElem?_toArray]; exact ho
      simp only [ho']
      exact hg
    have hi' : i ∈ Region.ready md l.toArray listed := by rw [hr]; simp
    have hj' : j ∈ Region.ready md l.toArray listed := by rw [hr]; simp
    show wpAnyG P md l.toArray C n _ (planLen p + 1) listed a w
    refine ⟨fun h1 => (by rw [hr] at h1; cases h1), fun k hk => ?_⟩
    rw [hr] at hk
    simp only [List.mem_cons, List.not_mem_nil, or_false] at hk
    rcases hk with rfl | rfl
    · refine ⟨hin, gOp_mono hC (fun a' w' hC' h' => ?_) (one k p hi0 h.1)⟩
      exact wpAnyG_plan hsel hs hc hn p _ a' w' hap (inv.set hi' hin) hBp hC' h'
    · refine ⟨hjn, gOp_mono hC (fun a' w' hC' h' => ?_) (one k q hj0 h.2)⟩
      rw [hlen]
      exact wpAnyG_plan hsel hs hc hn q _ a' w' haq (inv.set hj' hjn) hBq hC' h'

/-- May the law be used? -/
def planB (l : List Oper) (p : Plan) (n : Nat) : Bool :=
  Region.noSelect l.toArray && decide (n < l.toArray.size) && decide (planLen p = n) && Region.sinkB .any l.toArray n && Region.chainB .any l.toArray n && planOk .any l.toArray n p (Array.replicate l.toArray.size false) && planAll l p

/-- **By a plan.** -/
theorem wp_region_plan {id : Nat} {Q : Exit → Act → World → Prop} {a : Act} {w : World} {l : List Oper} (p : Plan) (n : Nat) (C : World → Prop) (hC : C w.drew) (hm : P.follows .mixedOrders = true) (hB : planB l p n = true)
    (h : wpPlan P l C (fun a'' w'' => wpList P l.toArray Q (l.drop n) a'' w'') p a w.drew) : (Code.region id l.toArray true).wp P Q a w := by
  simp only [planB, Bool.and_eq_true, decide_eq_true_eq] at hB
  obtain ⟨⟨⟨⟨⟨⟨hsel, hn⟩, hln⟩, hs⟩, hc⟩, hlex⟩, hall⟩ := hB
  have hdl : (l.drop n).length = l.toArray.size - n := by simp
  have inv0 : HeadInv .any l.toArray n (Array.replicate l.toArray.size false) :=
    ⟨by simp, fun j oj _ hl => (by rw [getD_replicate_false] at hl; cases hl), fun t _ ht => getD_in (by simpa using ht) (getD_replicate_false _ _)⟩
  have H := wpAnyG_plan (P := P) (C := C) (md := .any) (n := n) (l := l) (Lq := fun a'' w'' => wpList P l.toArray Q (l.drop n) a'' w'') hsel hs hc hn p _ a w.drew hall inv0 hlex hC h
  refine wp_region_any hm ?_
  have := wpAny_of_G (Q' := Q) (g := l.toArray.size - n) (fun listed a' w' _ hL => by
    have := wpAny_of_seq (md := .any) (Q' := Q) (l.drop n) n listed a' w' (fun j => by simp [List.getElem?_drop]) (by rw [hdl]; exact hL.1) hL.2
    rwa [hdl] at this) _ _ _ _ hC H
  rw [hln, show n + (l.toArray.size - n) = l.toArray.size by omega] at this
  exact this
end
end Go.Proofs.YtfdklmpkienfhaaGreat
