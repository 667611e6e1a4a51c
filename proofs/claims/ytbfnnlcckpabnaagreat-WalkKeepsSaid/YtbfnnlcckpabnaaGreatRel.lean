import Derived.Test.YtbfnnlcckpabnaaGreatImg
import Derived.Test.YtbfnnlcckpabnaaGreatLd5
import Derived.Test.YtbfnnlcckpabnaaGreatWk3
import Derived.Test.YtbfnnlcckpabnaaGreatNf
import Derived.Test.YtbfnnlcckpabnaaGreatNear

/- Plain Lean: the walls and things of a map, as the program keeps them and as the specification does. -/
namespace Go.Proofs.YtbfnnlcckpabnaaGreat
set_option linter.unusedSimpArgs false
set_option linter.unusedVariables false
open Go.RowKit

section
variable {α β : Type} [DecidableEq α]

theorem mlook_none {a : α} : ∀ {l : List (α × β)}, mlook a l = none ↔ ∀ p ∈ l, p.1 ≠ a
  | [] => by simp [mlook]
  | (k, v) :: r => by
    unfold mlook
    by_cases h : a = k
    · rw [if_pos h]
      constructor
      · intro h2; cases h2
      · intro h2; exact absurd h.symm (h2 (k, v) (List.mem_cons_self))
    · rw [if_neg h, mlook_none]
      simp only [List.mem_cons, forall_eq_or_imp]
      exact ⟨fun h2 => ⟨fun e => h e.symm, h2⟩, fun h2 => h2.2⟩

theorem mlook_mem {a : α} {b : β} : ∀ {l : List (α × β)}, mlook a l = some b → (a, b) ∈ l
  | (k, v) :: r, h => by
    unfold mlook at h
    by_cases hk : a = k
    · rw [if_pos hk] at h; cases h; subst hk; exact List.mem_cons_self
    · rw [if_neg hk] at h; exact List.mem_cons_of_mem _ (mlook_mem h)

theorem mput_keys {a : α} {b : β} : ∀ {l : List (α × β)}, (∃ p ∈ l, p.1 = a) → (mput a b l).map (·.1) = l.map (·.1)
  | [], h => by obtain ⟨p, hp, _⟩ := h; cases hp
  | (k, v) :: r, h => by
    unfold mput
    by_cases hk : a = k
    · rw [if_pos hk, hk]; rfl
    · rw [if_neg hk]
      obtain ⟨p, hp, hpa⟩ := h
      rcases List.mem_cons.1 hp with rfl | hp
      · exact absurd hpa.symm hk
      · simp only [List.map_cons]
        rw [mput_keys ⟨p, hp, hpa⟩]

theorem mput_mem {a : α} {b : β} {q : α × β} : ∀ {l : List (α × β)}, q ∈ mput a b l → q = (a, b) ∨ q ∈ l
  | [], h => by left; simpa [mput] using h
  | (k, v) :: r, h => by
    unfold mput at h
    by_cases hk : a = k
    · rw [if_pos hk] at h
      rcases List.mem_cons.1 h with h | h
      · exact .inl h
      · exact .inr (List.mem_cons_of_mem _ h)
    · rw [if_neg hk] at h
      rcases List.mem_cons.1 h with h | h
      · exact .inr (by rw [h]; exact List.mem_cons_self)
      · rcases mput_mem h with h | h
        · exact .inl h
        · exact .inr (List.mem_cons_of_mem _ h)

theorem mdrop_perm {a : α} {b : β} : ∀ {l : List (α × β)}, mlook a l = some b → l.Perm ((a, b) :: mdrop a l)
  | (k, v) :: r, h => by
    unfold mlook at h
    unfold mdrop
    by_cases hk : a = k
    · rw [if_pos hk] at h ⊢; cases h; subst hk; exact List.Perm.refl _
    · rw [if_neg hk] at h ⊢
      exact ((mdrop_perm h).cons (k, v)).trans (List.Perm.swap _ _ _)

theorem mdrop_none {a : α} : ∀ {l : List (α × β)}, mlook a l = none → mdrop a l = l
  | [], _ => rfl
  | (k, v) :: r, h => by
    unfold mlook at h
    unfold mdrop
    by_cases hk : a = k
    · rw [if_pos hk] at h; cases h
    · rw [if_neg hk] at h ⊢; rw [mdrop_none h]
end

/-- A wall has a place in an ordered list. -/
theorem wallPlace_mem {t : List UInt8} {m : Int} : ∀ {T : WallList} {i : Nat}, T.Pairwise (fun x y => before x y = true) → ((wallPlace t m T i).2 = true ↔ (t, m) ∈ T)
  | [], i, _ => by simp [wallPlace]
  | (k, n) :: r, i, hs => by
    obtain ⟨h1, h2⟩ := List.pairwise_cons.1 hs
    unfold wallPlace
    by_cases he : k = t ∧ n = m
    · rw [if_pos he, ← he.1, ← he.2]; simp
    · rw [if_neg he]
      have hne : (t, m) ≠ (k, n) := fun h => he ⟨(congrArg Prod.fst h).symm, (congrArg Prod.snd h).symm⟩
      by_cases ha : wallAhead t m k n = true
      · rw [if_pos ha]
        simp only [Bool.false_eq_true, false_iff]
        intro h
        rcases List.mem_cons.1 h with h | h
        · exact hne h
        · have h3 : before (t, m) (k, n) = true := ha
          have h4 := before_trans h3 (h1 _ h)
          rw [before_irrefl] at h4
          cases h4
      · rw [if_neg ha, wallPlace_mem h2]
        simp [hne]

/-- Where a wall is put in, and where it is taken out. -/
theorem wallPlace_at {t : List UInt8} {m : Int} : ∀ {T : WallList} {i : Nat}, T.Pairwise (fun x y => before x y = true) → ∃ d, (wallPlace t m T i).1 = i + d ∧ d ≤ T.length ∧
    ((t, m) ∈ T → T[d]? = some (t, m)) ∧ ((t, m) ∉ T → (T.insertIdx d (t, m)).Pairwise (fun x y => before x y = true))
  | [], i, _ => ⟨0, by simp [wallPlace], Nat.zero_le _, fun h => (by cases h), fun _ => by simp⟩
  | (k, n) :: r, i, hs => by
    obtain ⟨h1, h2⟩ := List.pairwise_cons.1 hs
    unfold wallPlace
    by_cases he : k = t ∧ n = m
    · rw [if_pos he]
      refine ⟨0, rfl, Nat.zero_le _, fun _ => by rw [he.1, he.2]; rfl, fun h => absurd ?_ h⟩
      rw [he.1, he.2]; exact List.mem_cons_self
    · rw [if_neg he]
      have hne : (t, m) ≠ (k, n) := fun h => he ⟨(congrArg Prod.fst h).symm, (congrArg Prod.snd h).symm⟩
      by_cases ha : wallAhead t m k n = true
      · rw [if_pos ha]
        have h3 : before (t, m) (k, n) = true := ha
        refine ⟨0, rfl, Nat.zero_le _, fun h => ?_, fun _ => ?_⟩
        · rcases List.mem_cons.1 h with h | h
          · exact absurd h hne
          · have h4 := before_trans h3 (h1 _ h)
            rw [before_irrefl] at h4
            cases h4
        · rw [List.insertIdx_zero]
          refine List.pairwise_cons.2 ⟨fun y hy => ?_, hs⟩
          rcases List.mem_cons.1 hy with rfl | hy
          · exact h3
          · exact before_trans h3 (h1 _ hy)
      · rw [if_neg ha]
        obtain ⟨d, e1, e2, e3, e4⟩ := wallPlace_at (t := t) (m := m) (T := r) (i := i + 1) h2
        have h3 : before (k, n) (t, m) = true := by
          rcases before_total hne with h | h
          · exact absurd h ha
          · exact h
        refine ⟨d + 1, by rw [e1]; omega, by simp; omega, fun h => ?_, fun h => ?_⟩
        · rcases List.mem_cons.1 h with h | h
          · exact absurd h hne
          · simpa using e3 h
        · rw [List.insertIdx_succ_cons]
          refine List.pairwise_cons.2 ⟨fun y hy => ?_, e4 (fun h2 => h (List.mem_cons_of_mem _ h2))⟩
          rcases List.mem_insertIdx e2 |>.1 hy with rfl | hy
          · exact h3
          · exact h1 _ hy

/-- The same walls: in the program's map, and in the specification's ordered list. -/
structure WRel (W : Walls) (WL : WallList) : Prop where
  perm : (W.map (·.1)).Perm WL
  yes : ∀ p ∈ W, p.2 = true
  sorted : WL.Pairwise (fun x y => before x y = true)

theorem WRel.length {W : Walls} {WL : WallList} (h : WRel W WL) : W.length = WL.length := by
  have := h.perm.length_eq
  simpa using this

theorem WRel.look {W : Walls} {WL : WallList} (h : WRel W WL) (k : List UInt8 × Int) : (mlook k W).getD false = true ↔ k ∈ WL := by
  constructor
  · intro hl
    cases hm : mlook k W with
    | none => rw [hm] at hl; cases hl
    | some b => exact h.perm.mem_iff.1 (List.mem_map.2 ⟨_, mlook_mem hm, rfl⟩)
  · intro hk
    obtain ⟨p, hp, rfl⟩ := List.mem_map.1 (h.perm.mem_iff.2 hk)
    cases hm : mlook p.1 W with
    | none => exact absurd rfl (mlook_none.1 hm p hp)
    | some b =>
      have := h.yes _ (mlook_mem hm)
      simp only at this
      rw [this]
      rfl

/-- The specification's answer when a wall is put, and its walls behind it. -/
def putWall7 (WL : WallList) (s : List UInt8 × Int) (there : Bool) : Int × WallList :=
  if there = true ∧ (wallPlace s.1 s.2 WL 0).2 = false then (if 100 ≤ WL.length then (4, WL) else (0, WL.insertIdx (wallPlace s.1 s.2 WL 0).1 s))
  else if there = false ∧ (wallPlace s.1 s.2 WL 0).2 = true then (0, WL.eraseIdx (wallPlace s.1 s.2 WL 0).1) else (0, WL)

theorem insertIdx_perm {α : Type} {a : α} : ∀ {l : List α} {d : Nat}, d ≤ l.length → (l.insertIdx d a).Perm (a :: l)
  | l, 0, _ => by rw [List.insertIdx_zero]
  | [], d + 1, h => by simp at h
  | x :: l, d + 1, h => by
    rw [List.insertIdx_succ_cons]
    exact ((insertIdx_perm (a := a) (by simpa using h)).cons x).trans (List.Perm.swap _ _ _)

theorem eraseIdx_perm {α : Type} {a : α} : ∀ {l : List α} {d : Nat}, l[d]? = some a → l.Perm (a :: l.eraseIdx d)
  | x :: l, 0, h => by simp at h; subst h; exact List.Perm.refl _
  | x :: l, d + 1, h => by
    rw [List.eraseIdx_cons_succ]
    exact ((eraseIdx_perm (by simpa using h)).cons x).trans (List.Perm.swap _ _ _)

theorem eraseIdx_sub {α : Type} (l : List α) (d : Nat) : (l.eraseIdx d).Sublist l := List.eraseIdx_sublist l d

/-- Both put a wall alike. -/
theorem putWall_rel {W : Walls} {WL : WallList} (h : WRel W WL) (s : List UInt8 × Int) (there : Bool) : (putWall W s there).1 = (putWall7 WL s there).1 ∧ WRel (putWall W s there).2 (putWall7 WL s there).2 := by
  obtain ⟨t, m⟩ := s
  obtain ⟨d, e1, e2, e3, e4⟩ := wallPlace_at (t := t) (m := m) (i := 0) h.sorted
  rw [Nat.zero_add] at e1
  have hmem := wallPlace_mem (t := t) (m := m) (i := 0) h.sorted
  have hlook := h.look (t, m)
  have hlen := h.length
  unfold putWall putWall7
  simp only
  rw [e1]
  cases there with
  | false =>
    rw [if_pos rfl, if_neg (by simp)]
    by_cases hin : (t, m) ∈ WL
    · rw [if_pos ⟨rfl, hmem.2 hin⟩]
      refine ⟨rfl, ?_⟩
      have hy := hlook.2 hin
      cases hm : mlook (t, m) W with
      | none => rw [hm] at hy; cases hy
      | some b =>
        have hp := mdrop_perm hm
        have hp2 := eraseIdx_perm (e3 hin)
        refine ⟨?_, fun p hp' => h.yes p (hp.mem_iff.2 (List.mem_cons_of_mem _ hp')), h.sorted.sublist (eraseIdx_sub _ _)⟩
        have h5 := ((hp.map (·.1)).symm.trans h.perm).trans hp2
        exact (List.perm_cons _).1 h5
    · rw [if_neg (fun hh => hin (hmem.1 hh.2))]
      refine ⟨rfl, ?_⟩
      have hnone : mlook (t, m) W = none := by
        cases hm : mlook (t, m) W with
        | none => rfl
        | some b => exact absurd (h.perm.mem_iff.1 (List.mem_map.2 ⟨_, mlook_mem hm, rfl⟩)) hin
      rw [mdrop_none hnone]
      exact h
  | true =>
    rw [if_neg (by simp)]
    by_cases hin : (t, m) ∈ WL
    · rw [if_neg (fun hh => by have := hlook.2 hin; rw [this] at hh; cases hh.1), if_neg (fun hh => by rw [hmem.2 hin] at hh; cases hh.2), if_neg (by simp)]
      refine ⟨rfl, ?_, fun p hp => ?_, h.sorted⟩
      · obtain ⟨p, hp, hpe⟩ := List.mem_map.1 (h.perm.mem_iff.2 hin)
        rw [mput_keys ⟨p, hp, hpe⟩]
        exact h.perm
      · rcases mput_mem hp with rfl | hp
        · rfl
        · exact h.yes p hp
    · have hf : (wallPlace t m WL 0).2 = false := by
        cases hw : (wallPlace t m WL 0).2 with
        | false => rfl
        | true => exact absurd (hmem.1 hw) hin
      have hg : (mlook (t, m) W).getD false = false := by
        cases hw : (mlook (t, m) W).getD false with
        | false => rfl
        | true => exact absurd (hlook.1 hw) hin
      rw [if_pos (show true = true ∧ (wallPlace t m WL 0).2 = false from ⟨rfl, hf⟩)]
      by_cases h100 : 100 ≤ WL.length
      · rw [if_pos ⟨hg, by omega⟩, if_pos h100]
        exact ⟨rfl, h⟩
      · rw [if_neg (fun hh => h100 (by omega)), if_neg h100]
        refine ⟨rfl, ?_, fun p hp => ?_, e4 hin⟩
        · rw [mput_new (fun p hp e => hin (h.perm.mem_iff.1 (by rw [← e]; exact List.mem_map.2 ⟨p, hp, rfl⟩)))]
          rw [List.map_append]
          refine List.Perm.trans ?_ (insertIdx_perm e2).symm
          exact (List.perm_append_comm).trans (h.perm.cons _)
        · rcases mput_mem hp with rfl | hp
          · rfl
          · exact h.yes p hp
end Go.Proofs.YtbfnnlcckpabnaaGreat

/- Plain Lean: the things of a map, as the program keeps them and as the specification does. -/
namespace Go.Proofs.YtbfnnlcckpabnaaGreat
set_option linter.unusedSimpArgs false
set_option linter.unusedVariables false
open Go.RowKit

def SortedT (T : ThingList) : Prop := T.Pairwise (fun x y => aheadW x.1 y.1 = true)

theorem thingPlace_mem {t : List UInt8} : ∀ {T : ThingList} {i : Nat}, SortedT T → ((thingPlace t T i).2 = true ↔ ∃ x, (t, x) ∈ T)
  | [], i, _ => by simp [thingPlace]
  | (k, n) :: r, i, hs => by
    obtain ⟨h1, h2⟩ := List.pairwise_cons.1 hs
    unfold thingPlace
    by_cases he : k = t
    · rw [if_pos he, ← he]
      exact ⟨fun _ => ⟨n, List.mem_cons_self⟩, fun _ => rfl⟩
    · rw [if_neg he]
      by_cases ha : aheadW t k = true
      · rw [if_pos ha]
        simp only [Bool.false_eq_true, false_iff]
        rintro ⟨x, h⟩
        rcases List.mem_cons.1 h with h | h
        · exact he (congrArg Prod.fst h).symm
        · have h4 := ahead_trans ha (h1 _ h)
          rw [ahead_irrefl] at h4
          cases h4
      · rw [if_neg ha, thingPlace_mem h2]
        constructor
        · rintro ⟨x, h⟩; exact ⟨x, List.mem_cons_of_mem _ h⟩
        · rintro ⟨x, h⟩
          rcases List.mem_cons.1 h with h | h
          · exact absurd (congrArg Prod.fst h).symm he
          · exact ⟨x, h⟩

theorem thingPlace_at {t : List UInt8} : ∀ {T : ThingList} {i : Nat}, SortedT T → ∃ d, (thingPlace t T i).1 = i + d ∧ d ≤ T.length ∧
    ((∃ x, (t, x) ∈ T) → ∃ x, T[d]? = some (t, x)) ∧ ((¬ ∃ x, (t, x) ∈ T) → ∀ x, SortedT (T.insertIdx d (t, x)))
  | [], i, _ => ⟨0, by simp [thingPlace], Nat.zero_le _, fun h => (by obtain ⟨_, h⟩ := h; cases h), fun _ _ => by simp [SortedT]⟩
  | (k, n) :: r, i, hs => by
    obtain ⟨h1, h2⟩ := List.pairwise_cons.1 hs
    unfold thingPlace
    by_cases he : k = t
    · rw [if_pos he]
      refine ⟨0, rfl, Nat.zero_le _, fun _ => ⟨n, by rw [he]; rfl⟩, fun h => absurd ⟨n, ?_⟩ h⟩
      rw [he]; exact List.mem_cons_self
    · rw [if_neg he]
      by_cases ha : aheadW t k = true
      · rw [if_pos ha]
        refine ⟨0, rfl, Nat.zero_le _, fun h => ?_, fun _ x => ?_⟩
        · obtain ⟨x, h⟩ := h
          rcases List.mem_cons.1 h with h | h
          · exact absurd (congrArg Prod.fst h).symm he
          · have h4 := ahead_trans ha (h1 _ h)
            rw [ahead_irrefl] at h4
            cases h4
        · rw [List.insertIdx_zero]
          refine List.pairwise_cons.2 ⟨fun y hy => ?_, hs⟩
          rcases List.mem_cons.1 hy with rfl | hy
          · exact ha
          · exact ahead_trans ha (h1 _ hy)
      · rw [if_neg ha]
        obtain ⟨d, e1, e2, e3, e4⟩ := thingPlace_at (t := t) (T := r) (i := i + 1) h2
        have h3 : aheadW k t = true := by
          rcases ahead_total (fun e => he e.symm) with h | h
          · exact absurd h ha
          · exact h
        refine ⟨d + 1, by rw [e1]; omega, by simp; omega, fun h => ?_, fun h x => ?_⟩
        · obtain ⟨x, h⟩ := h
          rcases List.mem_cons.1 h with h | h
          · exact absurd (congrArg Prod.fst h).symm he
          · obtain ⟨y, hy⟩ := e3 ⟨x, h⟩
            exact ⟨y, by simpa using hy⟩
        · rw [List.insertIdx_succ_cons]
          refine List.pairwise_cons.2 ⟨fun y hy => ?_, e4 (fun ⟨z, hz⟩ => h ⟨z, List.mem_cons_of_mem _ hz⟩) x⟩
          rcases (List.mem_insertIdx e2).1 hy with rfl | hy
          · exact h3
          · exact h1 _ hy

theorem take_insert {α : Type} {a : α} : ∀ {l : List α} {d : Nat}, d ≤ l.length → l.take d ++ [a] ++ l.drop d = l.insertIdx d a
  | l, 0, _ => by rw [List.insertIdx_zero]; simp
  | [], d + 1, h => by simp at h
  | x :: l, d + 1, h => by
    rw [List.insertIdx_succ_cons, ← take_insert (by simpa using h)]
    simp

/-- The same things. -/
structure TRel (T : Things) (TL : ThingList) : Prop where
  perm : T.Perm TL
  sorted : SortedT TL

theorem TRel.uniq {T : Things} {TL : ThingList} (h : TRel T TL) {t x y : List UInt8} (h1 : (t, x) ∈ TL) (h2 : (t, y) ∈ TL) : x = y := by
  have key : ∀ {L : ThingList}, SortedT L → (t, x) ∈ L → (t, y) ∈ L → x = y := by
    intro L
    induction L with
    | nil => intro _ h; cases h
    | cons p L ih =>
      intro hs h1 h2
      obtain ⟨g1, g2⟩ := List.pairwise_cons.1 hs
      rcases List.mem_cons.1 h1 with h1 | h1
      · rcases List.mem_cons.1 h2 with h2 | h2
        · exact congrArg Prod.snd (h1.trans h2.symm)
        · have := g1 _ h2
          rw [← h1, ahead_irrefl] at this
          cases this
      · rcases List.mem_cons.1 h2 with h2 | h2
        · have := g1 _ h1
          rw [← h2, ahead_irrefl] at this
          cases this
        · exact ih g2 h1 h2
  exact key h.sorted h1 h2

theorem TRel.look {T : Things} {TL : ThingList} (h : TRel T TL) (t x : List UInt8) : mlook t T = some x ↔ (t, x) ∈ TL := by
  constructor
  · intro hm
    exact h.perm.mem_iff.1 (mlook_mem hm)
  · intro hx
    cases hm : mlook t T with
    | none => exact absurd rfl (mlook_none.1 hm (t, x) (h.perm.mem_iff.2 hx))
    | some y => rw [h.uniq (h.perm.mem_iff.1 (mlook_mem hm)) hx]

/-- The specification's answer when a thing is put, and its things behind it. -/
def putThing7 (TL : ThingList) (u thing : List UInt8) : Int × ThingList :=
  if Hy.isThing thing = false then (1, TL)
  else if thing ≠ [] ∧ (thingPlace u TL 0).2 = false ∧ 200 ≤ TL.length then (4, TL)
  else (0, (TL.take (thingPlace u TL 0).1 ++ (if thing = [] then [] else [(u, thing)])) ++ TL.drop ((thingPlace u TL 0).1 + (if (thingPlace u TL 0).2 = true then 1 else 0)))

theorem mput_perm {T : Things} {a b c : List UInt8} (h : mlook a T = some c) : (mput a b T).Perm ((a, b) :: mdrop a T) := by
  induction T with
  | nil => cases h
  | cons p T ih =>
    obtain ⟨k, v⟩ := p
    unfold mlook at h
    unfold mput mdrop
    by_cases hk : a = k
    · rw [if_pos hk] at h ⊢
      rw [if_pos hk]
    · rw [if_neg hk] at h ⊢
      rw [if_neg hk]
      exact ((ih h).cons (k, v)).trans (List.Perm.swap _ _ _)

theorem putThing_rel {T : Things} {TL : ThingList} (h : TRel T TL) (u thing : List UInt8) : (putThing T u thing).1 = (putThing7 TL u thing).1 ∧ TRel (putThing T u thing).2 (putThing7 TL u thing).2 := by
  obtain ⟨d, e1, e2, e3, e4⟩ := thingPlace_at (t := u) (i := 0) h.sorted
  rw [Nat.zero_add] at e1
  have hmem := thingPlace_mem (t := u) (i := 0) h.sorted
  have hlen := h.perm.length_eq
  unfold putThing putThing7
  rw [e1]
  by_cases h1 : Hy.isThing thing = false
  · rw [if_pos h1, if_pos h1]; exact ⟨rfl, h⟩
  rw [if_neg h1, if_neg h1]
  by_cases hin : ∃ x, (u, x) ∈ TL
  · have hp := hmem.2 hin
    obtain ⟨c, hc⟩ := e3 hin
    have hcm : (u, c) ∈ TL := List.mem_of_getElem? hc
    have hl := (h.look u c).2 hcm
    have hd := mdrop_perm hl
    have he := eraseIdx_perm hc
    have hde : (mdrop u T).Perm (TL.eraseIdx d) := (List.perm_cons _).1 ((hd.symm.trans h.perm).trans he)
    rw [hp, if_neg (show ¬ (thing ≠ [] ∧ true = false ∧ 200 ≤ TL.length) from fun hh => by cases hh.2.1)]
    simp only [if_true]
    by_cases h2 : thing = []
    · rw [if_pos h2, if_pos h2, List.append_nil, ← List.eraseIdx_eq_take_drop_succ]
      exact ⟨rfl, hde, h.sorted.sublist (eraseIdx_sub _ _)⟩
    · rw [if_neg h2, if_neg h2, if_neg (fun hh => by rw [hl] at hh; cases hh.1)]
      have hset : TL.take d ++ [(u, thing)] ++ TL.drop (d + 1) = TL.set d (u, thing) := by
        obtain ⟨hdl, _⟩ := List.getElem?_eq_some_iff.1 hc
        rw [List.set_eq_take_append_cons_drop, if_pos hdl]; simp
      rw [hset]
      refine ⟨rfl, ?_, ?_⟩
      · refine (mput_perm hl).trans ?_
        have hs : (TL.set d (u, thing))[d]? = some (u, thing) := by
          obtain ⟨hdl, _⟩ := List.getElem?_eq_some_iff.1 hc
          simp [hdl]
        have h5 := eraseIdx_perm hs
        rw [List.eraseIdx_set_eq] at h5
        exact (hde.cons _).trans h5.symm
      · have hk : (TL.set d (u, thing)).map (·.1) = TL.map (·.1) := by
          rw [List.map_set]
          apply List.ext_getElem?
          intro j
          rw [List.getElem?_set]
          split
          · rename_i hj
            subst hj
            obtain ⟨hdl, hde⟩ := List.getElem?_eq_some_iff.1 hc
            simp [hdl, hde]
          · rfl
        have h6 : (TL.map (·.1)).Pairwise (fun x y => aheadW x y = true) := List.pairwise_map.2 h.sorted
        rw [← hk] at h6
        exact List.pairwise_map.1 h6
  · have hp : (thingPlace u TL 0).2 = false := by
      cases hw : (thingPlace u TL 0).2 with
      | false => rfl
      | true => exact absurd (hmem.1 hw) hin
    have hnone : mlook u T = none := by
      cases hm : mlook u T with
      | none => rfl
      | some b => exact absurd ⟨b, h.perm.mem_iff.1 (mlook_mem hm)⟩ hin
    rw [hp]
    simp only [Bool.false_eq_true, if_false, Nat.add_zero]
    by_cases h2 : thing = []
    · rw [if_pos h2, if_neg (fun hh => hh.1 h2), if_pos h2, List.append_nil, List.take_append_drop, mdrop_none hnone]
      exact ⟨rfl, h⟩
    · rw [if_neg h2]
      by_cases h3 : 200 ≤ TL.length
      · rw [if_pos ⟨by rw [hnone]; rfl, by omega⟩, if_pos ⟨h2, trivial, h3⟩]
        exact ⟨rfl, h⟩
      · rw [if_neg (fun hh => h3 (by omega)), if_neg (fun hh => h3 hh.2.2), if_neg h2]
        have hins : TL.take d ++ [(u, thing)] ++ TL.drop d = TL.insertIdx d (u, thing) := by
          exact take_insert e2
        rw [hins]
        refine ⟨rfl, ?_, e4 hin thing⟩
        rw [mput_new (fun p hp e => hin ⟨p.2, by have := h.perm.mem_iff.1 hp; rw [← e]; exact this⟩)]
        exact (List.perm_append_comm.trans (h.perm.cons _)).trans (insertIdx_perm e2).symm
end Go.Proofs.YtbfnnlcckpabnaaGreat

/- Plain Lean: the search of the specification of layer 7 finds what the program's search finds. -/
namespace Go.Proofs.YtbfnnlcckpabnaaGreat
set_option linter.unusedSimpArgs false
set_option linter.unusedVariables false
open Go.RowKit
open Hy (Lets IsNF Eqv Le)

/-- The normal word. -/
def nf7 (o : Hy.Ord) (x : Word) : Word := (Hy.norm o 1000 x).getD []

theorem nf7_norm {o : Hy.Ord} (F : Hy.Fine o) {x : Word} (hx : Lets x) (hl : x.length ≤ 1000) : Hy.norm o 1000 x = some (nf7 o x) ∧ IsNF o x (nf7 o x) := by
  obtain ⟨n, h1, h2⟩ := Hy.norm_ok F (fuel := 1000) hx hl hl
  unfold nf7
  rw [h1]
  exact ⟨rfl, h2⟩

theorem nf7_eq {o : Hy.Ord} (F : Hy.Fine o) {x n : Word} (hx : Lets x) (hl : x.length ≤ 1000) (h : IsNF o x n) : nf7 o x = n := (nf7_norm F hx hl).2.uniq h

/-- The last r sides of a place are tried. -/
def dirs7 (o : Hy.Ord) (wall : Word → Int → Bool) (p : Word × Word) : Nat → Places → Option Places
  | 0, P => some P
  | r + 1, P => if 100000 ≤ P.length then none else
    if wall (Hy.nearOf p.1 (nf7 o (p.1 ++ Hy.letter (2 - r)))) ((2 - r : Nat) : Int) = true ∨ P.any (fun q => q.1 == nf7 o (p.1 ++ Hy.letter (2 - r))) = true then dirs7 o wall p r P
    else dirs7 o wall p r (P ++ [(nf7 o (p.1 ++ Hy.letter (2 - r)), p.2 ++ Hy.letter (2 - r))])

/-- The specification's search, from the place k on. -/
def reach7 (o : Hy.Ord) (wall : Word → Int → Bool) (isT : Word → Bool) (things : Bool) (goal : Word) : Nat → Nat → Places → Nat → Option Places
  | 0, _, _, _ => none
  | n + 1, k, P, most => match P[k]? with
    | none => some P
    | some p => if things = false ∧ p.1 = goal then some P else
      if p.2.length < (if things = true ∧ isT p.1 = true then min most p.2.length else most) then
        match dirs7 o wall p 3 P with
        | none => none
        | some P' => reach7 o wall isT things goal n (k + 1) P' (if things = true ∧ isT p.1 = true then min most p.2.length else most)
      else reach7 o wall isT things goal n (k + 1) P (if things = true ∧ isT p.1 = true then min most p.2.length else most)

section
variable {o : Hy.Ord} {wall : Word → Int → Bool} {su : Word}

theorem reachDirs_pre {fuel : Nat} {t way : Word} : ∀ (r : Nat) {q q' : Places} {s s' : Seen}, reachDirs o fuel wall su t way r q s = some (q', s') → ∃ e, q' = q ++ e ∧ ∀ p ∈ e, p.2.length = way.length + 1
  | 0, q, q', s, s', h => by
    cases h
    exact ⟨[], by simp, fun p hp => by cases hp⟩
  | r + 1, q, q', s, s', h => by
    obtain ⟨_, _, nx, _, ⟨_, h4⟩ | ⟨_, h4⟩⟩ := reachDirs_succ h
    · obtain ⟨e, rfl, he⟩ := reachDirs_pre r h4
      refine ⟨(nx, way ++ Hy.letter (2 - r)) :: e, by simp, fun p hp => ?_⟩
      rcases List.mem_cons.1 hp with rfl | hp
      · simp [Hy.letter]
      · exact he p hp
    · exact reachDirs_pre r h4

theorem reachAll_pre {fuel : Nat} : ∀ (n : Nat) {q l : Places} {s : Seen}, reachAll o fuel wall su n q s = some l → ∃ e, l = q ++ e ∧ ∀ c, (∀ p ∈ q, c ≤ p.2.length) → ∀ p ∈ e, c < p.2.length
  | n, [], l, s, h => by
    cases reachAll_nil h
    exact ⟨[], rfl, fun c _ p hp => by cases hp⟩
  | n, (t, way) :: q, l, s, h => by
    obtain ⟨m, l', rfl, rfl, ⟨_, h3⟩ | ⟨_, q', s', h3, h4⟩⟩ := reachAll_cons h
    · obtain ⟨e, rfl, he⟩ := reachAll_pre m h3
      exact ⟨e, rfl, fun c hc => he c fun p hp => hc p (List.mem_cons_of_mem _ hp)⟩
    · obtain ⟨e1, rfl, he1⟩ := reachDirs_pre 3 h3
      obtain ⟨e2, rfl, he2⟩ := reachAll_pre m h4
      refine ⟨e1 ++ e2, by simp, fun c hc p hp => ?_⟩
      have hway := hc (t, way) List.mem_cons_self
      simp only at hway
      rcases List.mem_append.1 hp with hp | hp
      · rw [he1 p hp]; omega
      · refine he2 c (fun p hp => ?_) p hp
        rcases List.mem_append.1 hp with hp | hp
        · exact hc p (List.mem_cons_of_mem _ hp)
        · rw [he1 p hp]; omega

theorem any_seen {P : Places} {s : Seen} (h : SeenOk P s) (x : Word) : P.any (fun q => q.1 == x) = (mlook x s).getD false := by
  have h1 := h x
  cases hb : (mlook x s).getD false with
  | true =>
    rw [hb] at h1
    obtain ⟨y, hy⟩ := h1.1 rfl
    exact List.any_eq_true.2 ⟨_, hy, by simp⟩
  | false =>
    rw [hb] at h1
    rw [List.any_eq_false]
    intro q hq he
    simp only [beq_iff_eq] at he
    have := h1.2 ⟨q.2, by rw [← he]; exact hq⟩
    cases this

theorem seen_snoc {P : Places} {s : Seen} (h2 : SeenOk P s) (nx y : Word) : SeenOk (P ++ [(nx, y)]) (mput nx true s) := by
  intro u
  rw [mlook_mput]
  by_cases hu : u = nx
  · rw [if_pos hu]
    exact ⟨fun _ => ⟨_, by rw [hu]; exact List.mem_append_right _ List.mem_cons_self⟩, fun _ => rfl⟩
  · rw [if_neg hu, h2 u]
    constructor
    · rintro ⟨y, hy⟩; exact ⟨y, List.mem_append_left _ hy⟩
    · rintro ⟨y, hy⟩
      rcases List.mem_append.1 hy with hy | hy
      · exact ⟨y, hy⟩
      · exact absurd (congrArg Prod.fst (List.mem_singleton.1 hy)) hu

theorem dirs_sim (F : Hy.Fine o) (hsu : Lets su) (hlen : su.length ≤ 60) {D : Places} {t way : Word} (ht : IsNF o (su ++ way) t) (hw : Lets way) (hwl : way.length < 10) : ∀ (r : Nat) {q q' : Places} {s s' : Seen}, reachDirs o 1000 wall su t way r q s = some (q', s') →
    SeenOk (D ++ (t, way) :: q) s → (D ++ (t, way) :: q').length < 100000 → dirs7 o wall (t, way) r (D ++ (t, way) :: q) = some (D ++ (t, way) :: q') ∧ SeenOk (D ++ (t, way) :: q') s'
  | 0, q, q', s, s', h, hs, hl => by
    cases h
    exact ⟨rfl, hs⟩
  | r + 1, q, q', s, s', h, hs, hl => by
    obtain ⟨e, he, _⟩ := reachDirs_pre (r + 1) h
    obtain ⟨_, _, nx, hnx, hcase⟩ := reachDirs_succ h
    have hc : 2 - r < 3 := by omega
    have hL : Lets (su ++ (way ++ Hy.letter (2 - r))) := Lets.app.2 ⟨hsu, Lets.app.2 ⟨hw, Hy.lets_letter hc⟩⟩
    have hll : (Hy.letter (2 - r)).length = 1 := rfl
    have hN := nf7_norm F hL (by simp only [List.length_append, hll]; omega)
    have hnx2 : nf7 o (su ++ (way ++ Hy.letter (2 - r))) = nx := by rw [hN.1] at hnx; exact Option.some.inj hnx
    have htl := ht.len
    have hE : Eqv o (su ++ (way ++ Hy.letter (2 - r))) (t ++ Hy.letter (2 - r)) := by
      have := (ht.eqv.symm.right (Hy.letter (2 - r)))
      simpa using this
    have htL : Lets t := (Hy.same_tile F ht.eqv).1.2 (Lets.app.2 ⟨hsu, hw⟩)
    have hT : nf7 o (t ++ Hy.letter (2 - r)) = nx := by
      refine nf7_eq F (Lets.app.2 ⟨htL, Hy.lets_letter hc⟩) (by simp only [List.length_append] at htl ⊢; rw [hll]; omega) ?_
      rw [← hnx2]
      exact hN.2.congr hE
    unfold dirs7
    rw [if_neg (by rw [he] at hl; simp at hl ⊢; omega), any_seen hs]
    simp only
    rw [hT]
    rcases hcase with ⟨⟨c1, c2⟩, h4⟩ | ⟨h3, h4⟩
    · rw [if_neg (by rw [c1, c2]; simp)]
      have := dirs_sim F hsu hlen (D := D) ht hw hwl r h4 (by
        have := seen_snoc hs nx (way ++ Hy.letter (2 - r))
        simpa using this) hl
      simpa using this
    · rw [if_pos (by
        cases hb : wall (Hy.nearOf t nx) ((2 - r : Nat) : Int) with
        | true => exact .inl rfl
        | false =>
          right
          cases hb2 : (mlook nx s).getD false with
          | true => rfl
          | false => exact absurd ⟨hb2, hb⟩ h3)]
      exact dirs_sim F hsu hlen (D := D) ht hw hwl r h4 hs hl

theorem reach7_stuck {isT : Word → Bool} {goal : Word} : ∀ (fuel k : Nat) (P : Places) (most : Nat), (∀ p ∈ P.drop k, most ≤ p.2.length) → k ≤ P.length → P.length < fuel + k → reach7 o wall isT true goal fuel k P most = some P
  | 0, k, P, most, h1, h0, h2 => by omega
  | n + 1, k, P, most, h1, h0, h2 => by
    unfold reach7
    cases hk : P[k]? with
    | none => rfl
    | some p =>
      obtain ⟨hkl, hkp⟩ := List.getElem?_eq_some_iff.1 hk
      have hd : P.drop k = p :: P.drop (k + 1) := by rw [List.drop_eq_getElem_cons hkl, hkp]
      rw [hd] at h1
      have hp := h1 p List.mem_cons_self
      simp only
      rw [if_neg (by simp), if_neg (by split <;> omega)]
      refine reach7_stuck n (k + 1) P _ (fun q hq => ?_) (by omega) (by omega)
      have := h1 q (List.mem_cons_of_mem _ hq)
      split <;> omega

theorem reach_sim (F : Hy.Fine o) (hsu : Lets su) (hlen : su.length ≤ 60) (isT : Word → Bool) (things : Bool) (goal : Word) : ∀ (n : Nat) {D q l : Places} {s : Seen}, reachAll o 1000 wall su n q s = some l → Got o wall su (D ++ l) → SeenOk (D ++ q) s → ∀ fuel, l.length < fuel →
    ∃ R, reach7 o wall isT things goal fuel D.length (D ++ q) 10 = some R ∧ R <+: D ++ l ∧ (things = false → R = D ++ l ∨ ∃ p ∈ R, p.1 = goal) ∧
      (things = true → R = D ++ l ∨ ∃ p ∈ R, isT p.1 = true ∧ ∀ x ∈ (D ++ l).drop R.length, p.2.length < x.2.length)
  | n, D, [], l, s, h, hG, hS, 0, hf => by omega
  | n, D, _ :: _, l, s, h, hG, hS, 0, hf => by omega
  | n, D, [], l, s, h, hG, hS, f + 1, hf => by
    cases reachAll_nil h
    refine ⟨D ++ [], ?_, List.prefix_refl _, fun _ => .inl rfl, fun _ => .inl rfl⟩
    unfold reach7
    simp
  | n, D, (t, way) :: q, l, s, h, hG, hS, f + 1, hf => by
    obtain ⟨e, he, hee⟩ := reachAll_pre n h
    obtain ⟨m, l', rfl, hl', hcase⟩ := reachAll_cons h
    have hP : (D ++ (t, way) :: q)[D.length]? = some (t, way) := by simp
    have hmem : (t, way) ∈ D ++ l := by rw [hl']; exact List.mem_append_right _ List.mem_cons_self
    obtain ⟨g1, g2, g3, g4⟩ := hG.each _ hmem
    simp only at g1 g2 g3 g4
    have hsorted : ∀ p ∈ l', way.length ≤ p.2.length := fun p hp => by
      have h1 := (List.pairwise_append.1 hG.sorted).2.1
      rw [hl'] at h1
      have h2 := (List.pairwise_cons.1 h1).1 p hp
      have h3 := (hG.each p (by rw [hl']; exact List.mem_append_right _ (List.mem_cons_of_mem _ hp))).2.2.2
      exact rk_len g4 h3 (by simp only at h2; omega)
    have hqe : l' = q ++ e := by
      have := hl'.symm.trans he
      simpa using this
    unfold reach7
    rw [hP]
    simp only
    by_cases h1 : things = false ∧ t = goal
    · rw [if_pos h1]
      refine ⟨_, rfl, ⟨e, by rw [he]; simp⟩, fun _ => .inr ⟨(t, way), by simp, h1.2⟩, fun hh => by rw [h1.1] at hh; cases hh⟩
    rw [if_neg h1]
    by_cases h2 : things = true ∧ isT t = true
    · rw [if_pos h2, if_neg (by omega)]
      obtain ⟨h2a, h2b⟩ := h2
      subst h2a
      refine ⟨D ++ (t, way) :: q, ?_, ⟨e, by rw [he]; simp⟩, (fun hh => by cases hh), fun _ => .inr ⟨(t, way), by simp, h2b, fun x hx => ?_⟩⟩
      · refine reach7_stuck f (D.length + 1) _ _ (fun p hp => ?_) (by simp) (by
          have : l.length = q.length + e.length + 1 := by rw [hl', hqe]; simp
          simp; omega)
        have : (D ++ (t, way) :: q).drop (D.length + 1) = q := by
          rw [show D ++ (t, way) :: q = (D ++ [(t, way)]) ++ q by simp, List.drop_left' (by simp)]
        rw [this] at hp
        have := hsorted p (by rw [hqe]; exact List.mem_append_left _ hp)
        omega
      · rw [he, ← List.append_assoc, List.drop_left] at hx
        exact hee way.length (fun p hp => by
          rcases List.mem_cons.1 hp with rfl | hp
          · exact Nat.le_refl _
          · exact hsorted p (by rw [hqe]; exact List.mem_append_left _ hp)) x hx
    · rw [if_neg h2]
      have hD : ∀ z : Places, D ++ (t, way) :: z = (D ++ [(t, way)]) ++ z := fun z => by simp
      have hDl : D.length + 1 = (D ++ [(t, way)]).length := by simp
      have hll : l'.length < f := by rw [hl'] at hf; simp at hf; omega
      have hG' : Got o wall su ((D ++ [(t, way)]) ++ l') := by rw [← hD, ← hl']; exact hG
      rw [hl', hD l']
      rcases hcase with ⟨h3, h4⟩ | ⟨h3, q', s', h4, h5⟩
      · rw [if_neg (by omega)]
        have := reach_sim F hsu hlen isT things goal m h4 hG' (by rw [← hD]; exact hS) f hll
        rw [← hDl, ← hD q] at this
        exact this
      · rw [if_pos (by omega)]
        obtain ⟨e2, he2, _⟩ := reachAll_pre m h5
        have hlen2 := hG'.length
        have hsim := dirs_sim F hsu hlen (D := D) g1 g4 (by omega) 3 h4 hS (by
          rw [he2] at hlen2
          simp at hlen2 ⊢
          omega)
        rw [hsim.1]
        simp only
        have := reach_sim F hsu hlen isT things goal m h5 hG' (by rw [← hD]; exact hsim.2) f hll
        rw [← hDl, ← hD q'] at this
        exact this
end
end Go.Proofs.YtbfnnlcckpabnaaGreat

/- Plain Lean: the answers of Way and Near, of the program and of the specification. -/
namespace Go.Proofs.YtbfnnlcckpabnaaGreat
set_option linter.unusedSimpArgs false
set_option linter.unusedVariables false
open Go.RowKit
open Hy (Lets IsNF Eqv Le)

/-- The specification's choice among the places. -/
def near7 (isT : Word → Bool) : Places → Bool × Nat × Word → Bool × Nat × Word
  | [], s => s
  | p :: ps, (f, far, e) =>
    if isT p.1 = false ∨ (f = true ∧ (far < p.2.length ∨ aheadW p.1 e = false)) then near7 isT ps (f, far, e) else near7 isT ps (true, p.2.length, p.1)

theorem near7_cons (isT : Word → Bool) (p : Word × Word) (ps : Places) (f : Bool) (far : Nat) (e : Word) : near7 isT (p :: ps) (f, far, e) =
    if isT p.1 = false ∨ (f = true ∧ (far < p.2.length ∨ aheadW p.1 e = false)) then near7 isT ps (f, far, e) else near7 isT ps (true, p.2.length, p.1) := rfl

theorem near7_far {isT : Word → Bool} {far : Nat} {e : Word} : ∀ {Z : Places}, (∀ p ∈ Z, far < p.2.length) → near7 isT Z (true, far, e) = (true, far, e)
  | [], _ => rfl
  | p :: Z, h => by
    unfold near7
    rw [if_pos (.inr ⟨rfl, .inl (h p List.mem_cons_self)⟩)]
    exact near7_far fun q hq => h q (List.mem_cons_of_mem _ hq)

theorem near7_append {isT : Word → Bool} : ∀ {R Z : Places} {s : Bool × Nat × Word}, near7 isT (R ++ Z) s = near7 isT Z (near7 isT R s)
  | [], Z, s => rfl
  | p :: R, Z, (f, far, e) => by
    rw [List.cons_append, near7_cons, near7_cons]
    split
    · exact near7_append
    · exact near7_append

theorem near7_down {isT : Word → Bool} : ∀ {R : Places} {far : Nat} {e : Word}, ∃ far' e', near7 isT R (true, far, e) = (true, far', e') ∧ far' ≤ far
  | [], far, e => ⟨far, e, rfl, Nat.le_refl _⟩
  | p :: R, far, e => by
    unfold near7
    by_cases h : isT p.1 = false ∨ (true = true ∧ (far < p.2.length ∨ aheadW p.1 e = false))
    · rw [if_pos h]; exact near7_down
    · rw [if_neg h]
      obtain ⟨f', e', h1, h2⟩ := near7_down (isT := isT) (R := R) (far := p.2.length) (e := p.1)
      refine ⟨f', e', h1, Nat.le_trans h2 ?_⟩
      have : ¬ far < p.2.length := fun hh => h (.inr ⟨rfl, .inl hh⟩)
      omega

theorem near7_found {isT : Word → Bool} {q : Word × Word} (hq : isT q.1 = true) : ∀ {R : Places} {far : Nat} {e : Word}, R.Pairwise (fun x y => x.2.length ≤ y.2.length) → q ∈ R → ∃ far' e', near7 isT R (false, far, e) = (true, far', e') ∧ far' ≤ q.2.length
  | p :: R, far, e, hs, hm => by
    obtain ⟨h1, h2⟩ := List.pairwise_cons.1 hs
    unfold near7
    by_cases hp : isT p.1 = true
    · rw [if_neg (by rw [hp]; simp)]
      obtain ⟨f', e', h3, h4⟩ := near7_down (isT := isT) (R := R) (far := p.2.length) (e := p.1)
      refine ⟨f', e', h3, Nat.le_trans h4 ?_⟩
      rcases List.mem_cons.1 hm with rfl | hm
      · exact Nat.le_refl _
      · exact h1 _ hm
    · rw [if_pos (.inl (by simpa using hp))]
      rcases List.mem_cons.1 hm with rfl | hm
      · exact absurd hq hp
      · exact near7_found hq h2 hm

theorem nearGo_near7 {T : Things} {isT : Word → Bool} (hT : ∀ t, isT t = (mlook t T).isSome) : ∀ {xs : Places} {s : Bool × Nat × Word}, xs.Pairwise (fun x y => x.2.length ≤ y.2.length) → nearGo T xs s = near7 isT xs s
  | [], s, _ => rfl
  | p :: xs, (f, far, e), hs => by
    obtain ⟨h1, h2⟩ := List.pairwise_cons.1 hs
    unfold nearGo near7
    rw [← hT]
    simp only [cmpW_ahead]
    by_cases h3 : f = true ∧ far < p.2.length
    · rw [if_pos h3, if_pos (.inr ⟨h3.1, .inl h3.2⟩), h3.1, near7_far (fun q hq => Nat.lt_of_lt_of_le h3.2 (h1 q hq))]
    · rw [if_neg h3]
      by_cases h4 : isT p.1 = true ∧ (f = false ∨ aheadW p.1 e = true)
      · rw [if_pos h4, if_neg (by
          rintro (h | ⟨h5, h6 | h6⟩)
          · rw [h] at h4; cases h4.1
          · exact h3 ⟨h5, h6⟩
          · rcases h4.2 with h7 | h7
            · rw [h5] at h7; cases h7
            · rw [h6] at h7; cases h7)]
        exact nearGo_near7 hT h2
      · rw [if_neg h4, if_pos (by
          cases hb : isT p.1 with
          | false => exact .inl rfl
          | true =>
            right
            cases f with
            | false => exact absurd ⟨hb, .inl rfl⟩ h4
            | true =>
              refine ⟨rfl, .inr ?_⟩
              cases ha : aheadW p.1 e with
              | false => rfl
              | true => exact absurd ⟨hb, .inr ha⟩ h4)]
        exact nearGo_near7 hT h2

theorem got_lengths {o : Hy.Ord} {wall : Word → Int → Bool} {su : Word} {P : Places} (h : Got o wall su P) : P.Pairwise (fun x y => x.2.length ≤ y.2.length) := by
  refine List.Pairwise.imp_of_mem (fun {a b} ha hb hab => ?_) h.sorted
  exact rk_len (h.each a ha).2.2.2 (h.each b hb).2.2.2 (by omega)

/-- Both find the same thing. -/
theorem near_same {T : Things} {isT : Word → Bool} (hT : ∀ t, isT t = (mlook t T).isSome) {xs R : Places} (hs : xs.Pairwise (fun x y => x.2.length ≤ y.2.length)) (hp : R <+: xs)
    (hc : R = xs ∨ ∃ p ∈ R, isT p.1 = true ∧ ∀ x ∈ xs.drop R.length, p.2.length < x.2.length) (s : Word) (n : Nat) : nearGo T xs (false, n, s) = near7 isT R (false, n, s) := by
  rw [nearGo_near7 hT hs]
  rcases hc with rfl | ⟨p, hp1, hp2, hp3⟩
  · rfl
  · obtain ⟨Z, rfl⟩ := hp
    rw [List.drop_left] at hp3
    rw [near7_append]
    obtain ⟨f', e', h1, h2⟩ := near7_found (isT := isT) hp2 (far := n) (e := s) (List.pairwise_append.1 hs).1 hp1
    rw [h1]
    exact near7_far fun q hq => Nat.lt_of_le_of_lt h2 (hp3 q hq)

/-- Both find the same way. -/
theorem way_same {xs R : Places} {goal : Word} (hp : R <+: xs) (hc : R = xs ∨ ∃ p ∈ R, p.1 = goal) : wayIn R goal = wayIn xs goal := by
  rcases hc with rfl | ⟨p, h1, h2⟩
  · rfl
  · obtain ⟨Z, rfl⟩ := hp
    unfold wayIn
    rw [List.find?_append]
    cases h : R.find? (fun p => p.1 == goal) with
    | some q => rfl
    | none =>
      have := List.find?_eq_none.1 h p h1
      exact absurd (by simpa using h2) this

/-- The same walls. -/
theorem walls_same {W : Walls} {WL : WallList} (h : WRel W WL) : wallIn W = fun t m => (wallPlace t m WL 0).2 := by
  funext t m
  have h1 := h.look (t, m)
  have h2 := wallPlace_mem (t := t) (m := m) (i := 0) h.sorted
  unfold wallIn
  cases hb : (wallPlace t m WL 0).2 with
  | true => exact h1.2 (h2.1 hb)
  | false =>
    cases hc : (mlook (t, m) W).getD false with
    | false => rfl
    | true =>
      rw [h2.2 (h1.1 hc)] at hb
      cases hb

/-- The same things. -/
theorem things_same {T : Things} {TL : ThingList} (h : TRel T TL) (t : Word) : (thingPlace t TL 0).2 = (mlook t T).isSome := by
  have h2 := thingPlace_mem (t := t) (i := 0) h.sorted
  cases hm : mlook t T with
  | some x =>
    exact h2.2 ⟨x, (h.look t x).1 hm⟩
  | none =>
    cases hb : (thingPlace t TL 0).2 with
    | false => rfl
    | true =>
      obtain ⟨x, hx⟩ := h2.1 hb
      rw [(h.look t x).2 hx] at hm
      cases hm
end Go.Proofs.YtbfnnlcckpabnaaGreat
