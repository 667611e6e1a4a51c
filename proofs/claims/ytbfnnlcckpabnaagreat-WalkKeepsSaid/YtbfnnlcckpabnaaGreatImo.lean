/- Plain Lean: the image of walls and things; what an image says has this image. -/
import Derived.Test.YtbfnnlcckpabnaaGreatImg
namespace Go.Proofs.YtbfnnlcckpabnaaGreat
set_option linter.unusedSimpArgs false
set_option linter.unusedVariables false
open Go.RowKit

def wallImg (p : List UInt8 × Int) : List UInt8 := UInt8.ofNat p.1.length :: (p.1 ++ [UInt8.ofNat p.2.toNat])
def thingImg (p : List UInt8 × List UInt8) : List UInt8 := UInt8.ofNat p.1.length :: (p.1 ++ (UInt8.ofNat p.2.length :: p.2))
def countImg (n : Nat) : List UInt8 := [UInt8.ofNat (n / 256), UInt8.ofNat (n % 256)]
def headImg (o : Hy.Ord) : List UInt8 := [UInt8.ofNat o.m01, UInt8.ofNat o.m12, UInt8.ofNat o.m02]
/-- The image. -/
def imageOf (o : Hy.Ord) (WL : WallList) (TL : ThingList) : List UInt8 := headImg o ++ countImg WL.length ++ WL.flatMap wallImg ++ countImg TL.length ++ TL.flatMap thingImg

theorem takeText_img {l w r : List UInt8} (h : takeText l = some (w, r)) : l = UInt8.ofNat w.length :: (w ++ r) := by
  cases l with
  | nil => cases h
  | cons c l =>
    have h' : (if l.length < c.toNat then none else some (l.take c.toNat, l.drop c.toNat)) = some (w, r) := h
    by_cases hc : l.length < c.toNat
    · rw [if_pos hc] at h'; cases h'
    · rw [if_neg hc] at h'
      have e1 : l.take c.toNat = w := congrArg Prod.fst (Option.some.inj h')
      have e2 : l.drop c.toNat = r := congrArg Prod.snd (Option.some.inj h')
      have hl : (l.take c.toNat).length = c.toNat := by rw [List.length_take]; omega
      rw [← e1, ← e2, hl, List.take_append_drop, UInt8.ofNat_toNat]

theorem takeNum_img {l r : List UInt8} {n : Nat} (h : takeNum l = some (n, r)) : l = countImg n ++ r := by
  match l, h with
  | a :: b :: t, h =>
    simp only [takeNum, Option.some.injEq, Prod.mk.injEq] at h
    obtain ⟨rfl, rfl⟩ := h
    have hb := b.toNat_lt
    have e1 : (256 * a.toNat + b.toNat) / 256 = a.toNat := by omega
    have e2 : (256 * a.toNat + b.toNat) % 256 = b.toNat := by omega
    unfold countImg
    rw [e1, e2, UInt8.ofNat_toNat, UInt8.ofNat_toNat]
    rfl

theorem many_walls_img {o : Hy.Ord} : ∀ {n : Nat} {T T' : WallList} {l l' : List UInt8}, many (wallStep o) n (T, l) = some (T', l') → ∃ X : WallList, T' = T ++ X ∧ X.length = n ∧ l = X.flatMap wallImg ++ l'
  | 0, T, T', l, l', h => by cases h; exact ⟨[], by simp, rfl, rfl⟩
  | n + 1, T, T', l, l', h => by
    unfold many at h
    cases hs : wallStep o (T, l) with
    | none => rw [hs] at h; cases h
    | some p =>
      obtain ⟨T1, l1⟩ := p
      rw [hs] at h
      obtain ⟨t, c, ht, _, _, _, _, rfl⟩ := wallStep_some hs
      obtain ⟨X, rfl, hX, rfl⟩ := many_walls_img h
      refine ⟨(t, (c.toNat : Int)) :: X, by simp, by simp [hX], ?_⟩
      rw [takeText_img (takeTile_some ht).1]
      simp [wallImg]

theorem many_things_img {o : Hy.Ord} : ∀ {n : Nat} {T T' : ThingList} {l l' : List UInt8}, many (thingStep o) n (T, l) = some (T', l') → ∃ X : ThingList, T' = T ++ X ∧ X.length = n ∧ l = X.flatMap thingImg ++ l'
  | 0, T, T', l, l', h => by cases h; exact ⟨[], by simp, rfl, rfl⟩
  | n + 1, T, T', l, l', h => by
    unfold many at h
    cases hs : thingStep o (T, l) with
    | none => rw [hs] at h; cases h
    | some p =>
      obtain ⟨T1, l1⟩ := p
      rw [hs] at h
      obtain ⟨t, r, x, ht, hx, _, _, _, _, rfl⟩ := thingStep_some hs
      obtain ⟨X, rfl, hX, rfl⟩ := many_things_img h
      refine ⟨(t, x) :: X, by simp, by simp [hX], ?_⟩
      rw [takeText_img (takeTile_some ht).1, takeText_img hx]
      simp [thingImg]

/-- What an image says has this image. -/
theorem parse_image {L : List UInt8} {o : Hy.Ord} {W : WallList} {T : ThingList} (h : parse L = some (o, W, T)) : imageOf o W T = L := by
  match L, h with
  | a :: b :: c :: r, h =>
    simp only [parse] at h
    by_cases he : Hy.ordErr (a.toNat : Int) (b.toNat : Int) (c.toNat : Int) = 0
    · rw [if_pos he] at h
      obtain ⟨p, h1, h2⟩ := Option.map_eq_some_iff.1 h
      cases h2
      unfold parseRest at h1
      cases hn : takeNum r with
      | none => rw [hn] at h1; cases h1
      | some q =>
        obtain ⟨n, r1⟩ := q
        rw [hn] at h1
        simp only at h1
        cases hw : many (wallStep ⟨a.toNat, b.toNat, c.toNat⟩) n ([], r1) with
        | none => rw [hw] at h1; cases h1
        | some q =>
          obtain ⟨W1, r2⟩ := q
          rw [hw] at h1
          simp only at h1
          cases hk : takeNum r2 with
          | none => rw [hk] at h1; cases h1
          | some q =>
            obtain ⟨k, r3⟩ := q
            rw [hk] at h1
            simp only at h1
            cases ht : many (thingStep ⟨a.toNat, b.toNat, c.toNat⟩) k ([], r3) with
            | none => rw [ht] at h1; cases h1
            | some q =>
              obtain ⟨T1, r4⟩ := q
              rw [ht] at h1
              cases r4 with
              | cons _ _ => cases h1
              | nil =>
                cases h1
                obtain ⟨X, rfl, hX, hr1⟩ := many_walls_img hw
                obtain ⟨Y, rfl, hY, hr3⟩ := many_things_img ht
                have hr := takeNum_img hn
                have hr2 := takeNum_img hk
                rw [hr, hr1, hr2, hr3]
                unfold imageOf headImg
                simp [hX, hY, UInt8.ofNat_toNat]
    · rw [if_neg he] at h; cases h

theorem parse_walls {L : List UInt8} {o : Hy.Ord} {W : WallList} {T : ThingList} (h : parse L = some (o, W, T)) : ∃ n r r', many (wallStep o) n ([], r) = some (W, r') ∧ ∃ k s, many (thingStep o) k ([], s) = some (T, []) := by
  match L, h with
  | a :: b :: c :: r, h =>
    simp only [parse] at h
    by_cases he : Hy.ordErr (a.toNat : Int) (b.toNat : Int) (c.toNat : Int) = 0
    · rw [if_pos he] at h
      obtain ⟨p, h1, h2⟩ := Option.map_eq_some_iff.1 h
      cases h2
      unfold parseRest at h1
      cases hn : takeNum r with
      | none => rw [hn] at h1; cases h1
      | some q =>
        obtain ⟨n, r1⟩ := q
        rw [hn] at h1
        simp only at h1
        cases hw : many (wallStep ⟨a.toNat, b.toNat, c.toNat⟩) n ([], r1) with
        | none => rw [hw] at h1; cases h1
        | some q =>
          obtain ⟨W1, r2⟩ := q
          rw [hw] at h1
          simp only at h1
          cases hk : takeNum r2 with
          | none => rw [hk] at h1; cases h1
          | some q =>
            obtain ⟨k, r3⟩ := q
            rw [hk] at h1
            simp only at h1
            cases ht : many (thingStep ⟨a.toNat, b.toNat, c.toNat⟩) k ([], r3) with
            | none => rw [ht] at h1; cases h1
            | some q =>
              obtain ⟨T1, r4⟩ := q
              rw [ht] at h1
              cases r4 with
              | cons _ _ => cases h1
              | nil =>
                cases h1
                exact ⟨n, r1, r2, hw, k, r3, ht⟩
    · rw [if_neg he] at h; cases h

/-- Each wall of an image stands on a side that leads up from a normal word. -/
def FineWall (o : Hy.Ord) (p : List UInt8 × Int) : Prop := Hy.wordErr p.1 = 0 ∧ Hy.norm o 1000 p.1 = some p.1 ∧ ∃ m : Nat, p.2 = (m : Int) ∧ m ≤ 2 ∧ upward o p.1 m = true
def FineThing (o : Hy.Ord) (p : List UInt8 × List UInt8) : Prop := Hy.wordErr p.1 = 0 ∧ Hy.norm o 1000 p.1 = some p.1 ∧ p.2 ≠ [] ∧ Hy.isThing p.2 = true

theorem many_walls_fine {o : Hy.Ord} : ∀ {n : Nat} {T T' : WallList} {l l' : List UInt8}, many (wallStep o) n (T, l) = some (T', l') → T.Pairwise (fun x y => before x y = true) → (∀ p ∈ T, FineWall o p) → T.length ≤ 100 →
    T'.Pairwise (fun x y => before x y = true) ∧ (∀ p ∈ T', FineWall o p) ∧ T'.length ≤ 100
  | 0, T, T', l, l', h, h1, h2, h3 => by cases h; exact ⟨h1, h2, h3⟩
  | n + 1, T, T', l, l', h, h1, h2, h3 => by
    unfold many at h
    cases hs : wallStep o (T, l) with
    | none => rw [hs] at h; cases h
    | some p =>
      obtain ⟨T1, l1⟩ := p
      rw [hs] at h
      obtain ⟨p1, _, p3⟩ := wallStep_pair h1 hs
      obtain ⟨t, c, ht, hc, _, _, hu, rfl⟩ := wallStep_some hs
      refine many_walls_fine h p1 (fun q hq => ?_) p3
      rcases List.mem_append.1 hq with hq | hq
      · exact h2 q hq
      · rw [List.mem_singleton.1 hq]
        obtain ⟨_, e1, e2⟩ := takeTile_some ht
        exact ⟨e1, e2, c.toNat, rfl, hc, hu⟩

theorem many_things_fine {o : Hy.Ord} : ∀ {n : Nat} {T T' : ThingList} {l l' : List UInt8}, many (thingStep o) n (T, l) = some (T', l') → T.Pairwise (fun x y => aheadW x.1 y.1 = true) → (∀ p ∈ T, FineThing o p) → T.length ≤ 200 →
    T'.Pairwise (fun x y => aheadW x.1 y.1 = true) ∧ (∀ p ∈ T', FineThing o p) ∧ T'.length ≤ 200
  | 0, T, T', l, l', h, h1, h2, h3 => by cases h; exact ⟨h1, h2, h3⟩
  | n + 1, T, T', l, l', h, h1, h2, h3 => by
    unfold many at h
    cases hs : thingStep o (T, l) with
    | none => rw [hs] at h; cases h
    | some p =>
      obtain ⟨T1, l1⟩ := p
      rw [hs] at h
      obtain ⟨p1, _, p3⟩ := thingStep_pair h1 hs
      obtain ⟨t, r, x, ht, hx, _, _, hx1, hx2, rfl⟩ := thingStep_some hs
      refine many_things_fine h p1 (fun q hq => ?_) p3
      rcases List.mem_append.1 hq with hq | hq
      · exact h2 q hq
      · rw [List.mem_singleton.1 hq]
        obtain ⟨_, e1, e2⟩ := takeTile_some ht
        exact ⟨e1, e2, hx1, hx2⟩

/-- The walls and things of an image. -/
theorem parse_lists {L : List UInt8} {o : Hy.Ord} {W : WallList} {T : ThingList} (h : parse L = some (o, W, T)) : W.Pairwise (fun x y => before x y = true) ∧ (∀ p ∈ W, FineWall o p) ∧ W.length ≤ 100 ∧
    T.Pairwise (fun x y => aheadW x.1 y.1 = true) ∧ (∀ p ∈ T, FineThing o p) ∧ T.length ≤ 200 := by
  obtain ⟨n, r, r', h1, k, s, h2⟩ := parse_walls h
  obtain ⟨a1, a2, a3⟩ := many_walls_fine h1 List.Pairwise.nil (fun p hp => by cases hp) (by simp)
  obtain ⟨b1, b2, b3⟩ := many_things_fine h2 List.Pairwise.nil (fun p hp => by cases hp) (by simp)
  exact ⟨a1, a2, a3, b1, b2, b3⟩
end Go.Proofs.YtbfnnlcckpabnaaGreat
