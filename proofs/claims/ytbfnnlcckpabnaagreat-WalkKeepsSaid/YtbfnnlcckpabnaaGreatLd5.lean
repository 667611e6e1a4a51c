/- walk.reader.read: what is kept while an image is read. -/
import Derived.Test.YtbfnnlcckpabnaaGreatLd1
import Derived.Deep.RegionWith
namespace Go.Proofs.YtbfnnlcckpabnaaGreat
set_option linter.unusedSimpArgs false
set_option linter.unusedVariables false
open Go.RowKit

/-- The tail of what an image says, behind the things, behind the walls. -/
def afterThings (W : WallList) : Option (ThingList × List UInt8) → Option (WallList × ThingList)
  | some (T, []) => some (W, T)
  | _ => none
def afterWalls (o : Hy.Ord) : Option (WallList × List UInt8) → Option (WallList × ThingList)
  | none => none
  | some (W, r2) => match takeNum r2 with | none => none | some (k, r3) => afterThings W (many (thingStep o) k ([], r3))

theorem parseRest_eq (o : Hy.Ord) (l : List UInt8) : parseRest o l = match takeNum l with | none => none | some (n, r) => afterWalls o (many (wallStep o) n ([], r)) := by
  unfold parseRest
  cases takeNum l with
  | none => rfl
  | some p =>
    obtain ⟨n, r⟩ := p
    simp only
    cases many (wallStep o) n ([], r) with
    | none => rfl
    | some q =>
      obtain ⟨W, r2⟩ := q
      simp only [afterWalls]
      cases takeNum r2 with
      | none => rfl
      | some p2 =>
        obtain ⟨k, r3⟩ := p2
        simp only
        cases many (thingStep o) k ([], r3) with
        | none => rfl
        | some q2 =>
          obtain ⟨T, l2⟩ := q2
          cases l2 <;> rfl

theorem takeNum_some {l r : List UInt8} {n : Nat} (h : takeNum l = some (n, r)) : ∃ a b, l = a :: b :: r ∧ n = 256 * a.toNat + b.toNat := by
  match l, h with
  | a :: b :: r', h =>
    simp only [takeNum, Option.some.injEq, Prod.mk.injEq] at h
    obtain ⟨rfl, rfl⟩ := h
    exact ⟨a, b, rfl, rfl⟩

theorem takeNum_none {l : List UInt8} (h : takeNum l = none) : l.length < 2 := by
  match l, h with
  | [], _ => simp
  | [a], _ => simp

theorem many_succ {S : Type} (f : S → Option S) (n : Nat) (s : S) : many f (n + 1) s = match f s with | none => none | some s' => many f n s' := rfl

/-- The reading is done. -/
def ReadPost (rb : Nat) (o : Hy.Ord) (P : Option (WallList × ThingList)) (w : World) (e : Ending) (w' : World) : Prop :=
  match P with
  | some (W, T) => e = .returned (.tuple #[]) ∧ Only (fun k => k = rb ∨ w.heap.size ≤ k) w w' ∧ ∃ mb wb tb : Nat, w.heap.size ≤ mb ∧ w.heap.size ≤ wb ∧ w.heap.size ≤ tb ∧
      (∃ v, w'.heap[rb]? = some (.cells #[v, mptr mb] 105 (0, 0))) ∧ MRep w' o mb wb tb (W.map fun e => (e, true)) T
  | none => BadPost rb w e w'

theorem ReadPost.bad {rb : Nat} {o : Hy.Ord} {P : Option (WallList × ThingList)} {w w' : World} (h : P = none) (h2 : Only (fun k => k = rb ∨ w.heap.size ≤ k) w w') : ReadPost rb o P w (.panicked noImg) w' := by
  subst h
  exact ⟨rfl, h2⟩

/-- What is kept while the things are read. -/
structure TInv (N rb mb wb tb : Nat) (o : Hy.Ord) (w0 W : World) (l : List UInt8) (WL : Walls) (T : Things) : Prop where
  rd : Rd N W rb (mptr mb) l
  m : MRep W o mb wb tb WL T
  only : Only (fun k => k = rb ∨ w0.heap.size ≤ k) w0 W
  rlt : rb < w0.heap.size
  mge : w0.heap.size ≤ mb
  wge : w0.heap.size ≤ wb
  tge : w0.heap.size ≤ tb

section
variable {N rb mb wb tb : Nat} {o : Hy.Ord} {w0 W W' : World} {l l' : List UInt8} {WL : Walls} {T : Things}

theorem TInv.below (h : TInv N rb mb wb tb o w0 W l WL T) (hb : Below W.heap.size W W') : TInv N rb mb wb tb o w0 W' l WL T :=
  ⟨h.rd.below hb, h.m.grow hb, h.only.trans (Only.of_below hb (fun k hk => .inr (Nat.le_trans h.only.size hk))), h.rlt, h.mge, h.wge, h.tge⟩

theorem MRep.only {B : Nat → Prop} (h : MRep W o mb wb tb WL T) (hb : Only B W W') (h1 : ¬ B mb) (h2 : ¬ B wb) (h3 : ¬ B tb) : MRep W' o mb wb tb WL T :=
  ⟨(hb.block mb h1).trans h.cells, h.walls.of_heap (hb.block wb h2), h.things.of_heap (hb.block tb h3), h.apart, h.ok⟩

theorem TInv.reads (h : TInv N rb mb wb tb o w0 W l WL T) (hr : Rd N W' rb (mptr mb) l') (ho : Only (fun k => k = rb ∨ W.heap.size ≤ k) W W') : TInv N rb mb wb tb o w0 W' l' WL T := by
  have h1 := h.m.lt
  have h2 := h.rlt
  have h3 := h.mge
  have h4 := h.wge
  have h5 := h.tge
  exact ⟨hr, h.m.only ho (by omega) (by omega) (by omega), h.only.step ho, h2, h3, h4, h5⟩

theorem TInv.bad (h : TInv N rb mb wb tb o w0 W l WL T) (ho : Only (fun k => k = rb ∨ W.heap.size ≤ k) W W') : Only (fun k => k = rb ∨ w0.heap.size ≤ k) w0 W' := h.only.step ho

theorem TInv.drew (h : TInv N rb mb wb tb o w0 W l WL T) : TInv N rb mb wb tb o w0 W.drew l WL T :=
  ⟨h.rd.heap rfl, ⟨h.m.cells, h.m.walls.of_heap rfl, h.m.things.of_heap rfl, h.m.apart, h.m.ok⟩, h.only.drew, h.rlt, h.mge, h.wge, h.tge⟩

/-- A thing is put into the map. -/
theorem TInv.put (h : TInv N rb mb wb tb o w0 W l WL T) {ob : Obj} {T' : Things} (hm : MapAt (W.putObj tb ob) str str tb T') : TInv N rb mb wb tb o w0 (W.putObj tb ob) l WL T' := by
  have h1 := h.m.lt
  have h2 := h.rlt
  have h3 := h.mge
  have h4 := h.wge
  have h5 := h.tge
  have hmt : mb ≠ tb := by
    rintro rfl
    obtain ⟨es, c, e1, _⟩ := h.m.things
    rw [h.m.cells] at e1
    cases e1
  have hrd := h.rd.lt
  have ho : Only (fun k => k = tb) W (W.putObj tb ob) := Only.putObj (B := fun k => k = tb) (Only.refl _ W) rfl ob
  exact ⟨h.rd.only ho (by omega) (fun k hk => by omega), ⟨(ho.block mb hmt).trans h.m.cells, h.m.walls.of_heap (ho.block wb h.m.apart), hm, h.m.apart, h.m.ok⟩,
    h.only.putObj (.inr h5) ob, h2, h3, h4, h5⟩
end

/-- The things' last tile. -/
def lastT (T : ThingList) : List UInt8 := (T.getLast?.map (·.1)).getD []

theorem lastT_snoc (T : ThingList) (t x : List UInt8) : lastT (T ++ [(t, x)]) = t := by
  unfold lastT; simp

theorem lastT_iff {T : ThingList} {t : List UInt8} (hT : T ≠ []) : (∀ y ∈ T.getLast?, aheadW y.1 t = true) ↔ aheadW (lastT T) t = true := by
  unfold lastT
  rcases List.eq_nil_or_concat T with rfl | ⟨a, l, rfl⟩
  · exact absurd rfl hT
  · simp

theorem many_none {S : Type} {f : S → Option S} {n k : Nat} {s : S} (hk : k < n) (h : f s = none) : many f (n - k) s = none := by
  obtain ⟨d, hd⟩ : ∃ d, n - k = d + 1 := ⟨n - k - 1, by omega⟩
  rw [hd, many_succ, h]

theorem many_next {S : Type} {f : S → Option S} {n k : Nat} {s s' : S} (hk : k < n) (h : f s = some s') : many f (n - k) s = many f (n - (k + 1)) s' := by
  obtain ⟨d, hd⟩ : ∃ d, n - k = d + 1 := ⟨n - k - 1, by omega⟩
  rw [hd, many_succ, h, show n - (k + 1) = d by omega]

theorem mput_new {α β : Type} [DecidableEq α] {a : α} {b : β} {l : List (α × β)} (h : ∀ p ∈ l, p.1 ≠ a) : mput a b l = l ++ [(a, b)] := by
  induction l with
  | nil => rfl
  | cons p l ih =>
    obtain ⟨k, v⟩ := p
    unfold mput
    rw [if_neg (fun e => h (k, v) (List.mem_cons_self) e.symm), ih (fun q hq => h q (List.mem_cons_of_mem _ hq))]
    rfl
end Go.Proofs.YtbfnnlcckpabnaaGreat
