/- Plain Lean, no program: a step of the growing graph keeps what holds of it, and always ends. -/
import Derived.Test.YtbfnnlcckpabnaaGauss
namespace Hy
set_option linter.unusedSimpArgs false
set_option linter.unusedVariables false

/-- The same steps with another bound of words. -/
def cornerL (lim : Nat) (o : Ord) (f : List Node → Nat → Nat → Option (List Node × Nat)) (x s y : Nat) (G : List Node) (t : Nat) : Option (List Node) :=
  if t = s ∨ o.m s t = 0 then some G else
  match lowest G (o.m s t - 1) x t s with
  | none => none
  | some none => some G
  | some (some v) =>
    match climb f (o.m s t - 1) G v (if o.m s t % 2 = 0 then s else t) (if o.m s t % 2 = 0 then t else s) with
    | none => none
    | some (G', z) =>
      if z = y then none else
      match (link G' z y t)[z]?, (link G' z y t)[y]? with
      | some nz, some ny => if lim ≤ nz.word.length ∨ nz.word.length + 1 ≠ ny.word.length then none else some (if less (nz.word ++ letter t) ny.word then (link G' z y t).modify y (setWord (nz.word ++ letter t)) else link G' z y t)
      | _, _ => none

def cornersL (lim : Nat) (o : Ord) (f : List Node → Nat → Nat → Option (List Node × Nat)) (x s y : Nat) : Nat → List Node → Option (List Node)
  | 0, G => some G
  | r + 1, G => match cornerL lim o f x s y G (3 - (r + 1)) with | none => none | some G' => cornersL lim o f x s y r G'

def stepL (lim : Nat) (o : Ord) : Nat → List Node → Nat → Nat → Option (List Node × Nat)
  | 0, _, _, _ => none
  | fuel + 1, G, x, s =>
    match G[x]? with
    | none => none
    | some n =>
      match n.to s with
      | some y => some (G, y)
      | none => if lim ≤ n.word.length then none else match cornersL lim o (stepL lim o fuel) x s G.length 3 (sprout G n x s) with | none => none | some G' => some (G', G.length)

def walkL (lim : Nat) (o : Ord) (fuel : Nat) : List Node → Nat → List UInt8 → Option (List Node × Nat)
  | G, x, [] => some (G, x)
  | G, x, c :: w => match stepL lim o fuel G x c.toNat with | none => none | some (G', x') => walkL lim o fuel G' x' w

/-- What a corner comes to, case by case. -/
theorem cornerL_cases {lim : Nat} {o : Ord} {f : List Node → Nat → Nat → Option (List Node × Nat)} {x s y t : Nat} {G G1 : List Node} (hc : cornerL lim o f x s y G t = some G1) :
    (t = s ∧ G1 = G) ∨ (t ≠ s ∧ o.m s t = 0 ∧ G1 = G) ∨ (∃ m, t ≠ s ∧ o.m s t = m + 1 ∧ lowest G m x t s = some none ∧ G1 = G) ∨
    (∃ m v G' z nz ny, t ≠ s ∧ o.m s t = m + 1 ∧ lowest G m x t s = some (some v) ∧ climb f m G v (if (m + 1) % 2 = 0 then s else t) (if (m + 1) % 2 = 0 then t else s) = some (G', z) ∧ z ≠ y ∧
      (link G' z y t)[z]? = some nz ∧ (link G' z y t)[y]? = some ny ∧ nz.word.length < lim ∧ nz.word.length + 1 = ny.word.length ∧
      G1 = if less (nz.word ++ letter t) ny.word then (link G' z y t).modify y (setWord (nz.word ++ letter t)) else link G' z y t) := by
  unfold cornerL at hc
  by_cases h1 : t = s
  · rw [if_pos (.inl h1)] at hc
    exact .inl ⟨h1, by cases hc; rfl⟩
  by_cases h2 : o.m s t = 0
  · rw [if_pos (.inr h2)] at hc
    exact .inr (.inl ⟨h1, h2, by cases hc; rfl⟩)
  rw [if_neg (by rintro (h | h); exact h1 h; exact h2 h)] at hc
  obtain ⟨m, hm⟩ : ∃ m, o.m s t = m + 1 := ⟨o.m s t - 1, by omega⟩
  rw [hm, Nat.add_sub_cancel] at hc
  cases hl : lowest G m x t s with
  | none => rw [hl] at hc; cases hc
  | some r =>
    rw [hl] at hc
    cases r with
    | none => exact .inr (.inr (.inl ⟨m, h1, hm, hl, by cases hc; rfl⟩))
    | some v =>
      simp only at hc
      cases hcl : climb f m G v (if (m + 1) % 2 = 0 then s else t) (if (m + 1) % 2 = 0 then t else s) with
      | none => rw [hcl] at hc; cases hc
      | some p =>
        obtain ⟨G', z⟩ := p
        rw [hcl] at hc
        simp only at hc
        by_cases hz : z = y
        · rw [if_pos hz] at hc; cases hc
        rw [if_neg hz] at hc
        cases hnz : (link G' z y t)[z]? with
        | none => rw [hnz] at hc; cases hc
        | some nz =>
          cases hny : (link G' z y t)[y]? with
          | none => rw [hnz, hny] at hc; cases hc
          | some ny =>
            rw [hnz, hny] at hc
            simp only at hc
            by_cases hlen : lim ≤ nz.word.length ∨ nz.word.length + 1 ≠ ny.word.length
            · rw [if_pos hlen] at hc; cases hc
            · rw [if_neg hlen] at hc
              exact .inr (.inr (.inr ⟨m, v, G', z, nz, ny, h1, hm, hl, hcl, hz, hnz, hny, by omega, by omega, by cases hc; rfl⟩))

theorem cornersL_succ {lim : Nat} {o : Ord} {f : List Node → Nat → Nat → Option (List Node × Nat)} {x s y r : Nat} {G Gc : List Node} (h : cornersL lim o f x s y (r + 1) G = some Gc) :
    ∃ G1, cornerL lim o f x s y G (3 - (r + 1)) = some G1 ∧ cornersL lim o f x s y r G1 = some Gc := by
  unfold cornersL at h
  cases hc : cornerL lim o f x s y G (3 - (r + 1)) with
  | none => rw [hc] at h; cases h
  | some G1 => rw [hc] at h; exact ⟨G1, rfl, h⟩

theorem climb_imp {f f' : List Node → Nat → Nat → Option (List Node × Nat)} (hf : ∀ G x s p, f G x s = some p → f' G x s = some p) : ∀ {k : Nat} {G : List Node} {z l l' : Nat} {p : List Node × Nat}, climb f k G z l l' = some p → climb f' k G z l l' = some p
  | 0, _, _, _, _, _, h => h
  | k + 1, G, z, l, l', (G'', z''), h => by
    obtain ⟨G', z', h1, h2⟩ := climb_succ h
    unfold climb
    rw [hf _ _ _ _ h1]
    exact climb_imp hf h2

theorem corner_of_L {o : Ord} {f f' : List Node → Nat → Nat → Option (List Node × Nat)} (hf : ∀ G x s p, f G x s = some p → f' G x s = some p) {x s y t : Nat} {G G1 : List Node} (hc : cornerL 1000 o f x s y G t = some G1) : corner o f' x s y G t = some G1 := by
  rcases cornerL_cases hc with ⟨h1, h2⟩ | ⟨h1, h2, h3⟩ | ⟨m, h1, h2, h3, h4⟩ | ⟨m, v, G', z, nz, ny, h1, h2, h3, h4, h5, h6, h7, h8, h9, h10⟩
  · unfold corner; rw [if_pos (.inl h1), h2]
  · unfold corner; rw [if_pos (.inr h2), h3]
  · unfold corner
    rw [if_neg (by rintro (h | h); exact h1 h; omega), h2, Nat.add_sub_cancel, h3, h4]
  · unfold corner
    rw [if_neg (by rintro (h | h); exact h1 h; omega), h2, Nat.add_sub_cancel, h3]
    simp only
    rw [climb_imp hf h4]
    simp only
    rw [if_neg h5, h6, h7]
    simp only
    rw [if_neg (by omega), h10]

theorem corners_of_L {o : Ord} {f f' : List Node → Nat → Nat → Option (List Node × Nat)} (hf : ∀ G x s p, f G x s = some p → f' G x s = some p) {x s y : Nat} : ∀ {r : Nat} {G Gc : List Node}, cornersL 1000 o f x s y r G = some Gc → corners o f' x s y r G = some Gc
  | 0, _, _, h => h
  | r + 1, G, Gc, h => by
    obtain ⟨G1, h1, h2⟩ := cornersL_succ h
    unfold corners
    rw [corner_of_L hf h1]
    exact corners_of_L hf h2

theorem step_of_L (o : Ord) : ∀ fuel G x s p, stepL 1000 o fuel G x s = some p → step o fuel G x s = some p
  | 0, _, _, _, _, h => by cases h
  | fuel + 1, G, x, s, p, h => by
    unfold stepL at h
    unfold step
    cases hn : G[x]? with
    | none => rw [hn] at h; cases h
    | some n =>
      rw [hn] at h
      simp only at h ⊢
      cases ht : n.to s with
      | some y => rw [ht] at h; exact h
      | none =>
        rw [ht] at h
        simp only at h ⊢
        by_cases hl : 1000 ≤ n.word.length
        · rw [if_pos hl] at h; cases h
        · rw [if_neg hl] at h ⊢
          cases hc : cornersL 1000 o (stepL 1000 o fuel) x s G.length 3 (sprout G n x s) with
          | none => rw [hc] at h; cases h
          | some G' =>
            rw [hc] at h
            rw [corners_of_L (step_of_L o fuel) hc]
            exact h

theorem walk_of_L (o : Ord) (fuel : Nat) : ∀ w G x p, walkL 1000 o fuel G x w = some p → walk o fuel G x w = some p
  | [], _, _, _, h => h
  | c :: w, G, x, p, h => by
    unfold walkL at h
    unfold walk
    cases hs : stepL 1000 o fuel G x c.toNat with
    | none => rw [hs] at h; cases h
    | some q =>
      obtain ⟨G', x'⟩ := q
      rw [hs] at h
      rw [step_of_L o fuel _ _ _ _ hs]
      exact walk_of_L o fuel w G' x' p h

/-- A graph has grown; tiles of more than b letters have not. -/
structure Ext (G G' : List Node) (b : Nat) : Prop where
  len : G.length ≤ G'.length
  hwd : ∀ {i}, i < G.length → wd G' i = wd G i
  hdnb : ∀ {i s}, i < G.length → dnb G' i s = dnb G i s
  htod : ∀ {i s j}, tod G i s = some j → tod G' i s = some j
  same : ∀ {i s}, i < G.length → b < (wd G i).length → tod G' i s = tod G i s
  new : ∀ {i}, G.length ≤ i → (wd G' i).length ≤ b + 1

theorem Ext.refl (G : List Node) (b : Nat) : Ext G G b := ⟨Nat.le_refl _, fun _ => rfl, fun _ => rfl, id, fun _ _ => rfl, fun h => by rw [wd_out h]; exact Nat.zero_le _⟩
theorem Ext.weak {G G' : List Node} {b b' : Nat} (h : Ext G G' b) (hb : b ≤ b') : Ext G G' b' := ⟨h.len, h.hwd, h.hdnb, h.htod, fun h1 h2 => h.same h1 (by omega), fun h1 => by have := h.new h1; omega⟩
theorem Ext.trans {G G' G'' : List Node} {b : Nat} (h : Ext G G' b) (h' : Ext G' G'' b) : Ext G G'' b :=
  ⟨Nat.le_trans h.len h'.len, fun h1 => by rw [h'.hwd (by have := h.len; omega), h.hwd h1], fun h1 => by rw [h'.hdnb (by have := h.len; omega), h.hdnb h1], fun h1 => h'.htod (h.htod h1),
   fun h1 h2 => by rw [h'.same (by have := h.len; omega) (by rw [h.hwd h1]; exact h2), h.same h1 h2],
   fun {i} h1 => by
    by_cases hi : i < G'.length
    · rw [h'.hwd hi]; exact h.new h1
    · exact h'.new (by omega)⟩

theorem Ext.hdn {G G' : List Node} {b i a j : Nat} (h : Ext G G' b) (hd : Hy.dn G i a = some j) : Hy.dn G' i a = some j := by
  obtain ⟨h1, h2⟩ := dn_some.1 hd
  exact dn_some.2 ⟨by rw [h.hdnb (dnb_lt h1)]; exact h1, h.htod h2⟩
theorem Ext.dch {G G' : List Node} {b k x p q v : Nat} (h : Ext G G' b) (hd : Dch G k x p q v) : Dch G' k x p q v := Dch_mono (fun _ _ _ => h.hdn) hd
theorem Ext.dnback {o : Ord} {E : Nat → Prop} {G G' : List Node} {b i a j : Nat} (I : Inv o G E) (h : Ext G G' b) (hi : i < G.length) (hd : Hy.dn G' i a = some j) : Hy.dn G i a = some j ∧ j < G.length := by
  obtain ⟨h1, h2⟩ := dn_some.1 hd
  rw [h.hdnb hi] at h1
  obtain ⟨j', h3⟩ := I.lo_of h1
  have h4 := (dn_some.1 h3).2
  cases h2.symm.trans (h.htod h4)
  exact ⟨h3, tod_lt (I.sym h4).2⟩
theorem Ext.dchback {o : Ord} {E : Nat → Prop} {G G' : List Node} {b k x p q v : Nat} (I : Inv o G E) (h : Ext G G' b) (hx : x < G.length) (hd : Dch G' k x p q v) : Dch G k x p q v :=
  (Dch_back (· < G.length) (fun _ _ _ hi hd => h.dnback I hi hd) hx hd).1

/-- What a step does to tiles of less than B letters. -/
def StepOk (o : Ord) (E : Nat → Prop) (B : Nat) (f : List Node → Nat → Nat → Option (List Node × Nat)) : Prop :=
  ∀ G z l, Inv o G E → z < G.length → l < 3 → (wd G z).length < B → (∀ i, E i → i < G.length ∧ (wd G z).length + 1 < (wd G i).length) →
    ∃ G' z', f G z l = some (G', z') ∧ Inv o G' E ∧ Ext G G' (wd G z).length ∧ tod G' z l = some z' ∧ ∀ c D, Gh o G c D → ∃ c' D', Gh o G' c' D' ∧ D' ≤ D + 2

theorem climb_ok {o : Ord} {E : Nat → Prop} {B : Nat} {f : List Node → Nat → Nat → Option (List Node × Nat)} (hf : StepOk o E B f) {v : Nat} : ∀ r k G z l l', Inv o G E → (∀ i, E i → i < G.length ∧ B < (wd G i).length) →
    v < G.length → z < G.length → l < 3 → l' < 3 → l ≠ l' → dnb G v l = false → dnb G v l' = false → Dch G k z l' l v → k + r < o.m l l' → (wd G v).length + k + r ≤ B →
    ∃ G' z', climb f r G z l l' = some (G', z') ∧ Inv o G' E ∧ Ext G G' (B - 1) ∧ z' < G'.length ∧ Dch G' (k + r) z' (if r % 2 = 0 then l' else l) (if r % 2 = 0 then l else l') v ∧ ∀ c D, Gh o G c D → ∃ c' D', Gh o G' c' D' ∧ D' ≤ D + 2 * (r : Int) := by
  intro r
  induction r with
  | zero => intro k G z l l' I _ _ hz _ _ _ _ _ hd _ _; exact ⟨G, z, rfl, I, Ext.refl _ _, hz, hd, fun c D g => ⟨c, D, g, by omega⟩⟩
  | succ r ih =>
    intro k G z l l' I hE hv hz hl hl' hll b1 b2 hd hm hB
    have hlen := Dch_len I hd
    obtain ⟨G1, z1, h1, I1, X1, t1, gg1⟩ := hf G z l I hz hl (by omega) (fun i h => ⟨(hE i h).1, by have := (hE i h).2; omega⟩)
    have hdn := I.notdown hll b1 b2 (by omega) hd
    obtain ⟨h2, _⟩ := I1.rise t1 (by rw [X1.hdnb hz]; exact hdn)
    have hz1 : z1 < G1.length := tod_lt (I1.sym t1).2
    have hle := X1.len
    obtain ⟨G', z', h3, I', X', hz', hd', gg'⟩ := ih (k + 1) G1 z1 l' l I1 (fun i h => ⟨by have := (hE i h).1; omega, by rw [X1.hwd (hE i h).1]; exact (hE i h).2⟩)
      (by omega) hz1 hl' hl hll.symm (by rw [X1.hdnb hv]; exact b2) (by rw [X1.hdnb hv]; exact b1) ⟨z, h2, X1.dch hd⟩ (by rw [o.m_comm]; omega) (by rw [X1.hwd hv]; omega)
    refine ⟨G', z', ?_, I', (X1.weak (by omega)).trans X', hz', ?_, fun c D g => ?_⟩
    · unfold climb; rw [h1]; exact h3
    · rw [show k + (r + 1) = k + 1 + r by omega]
      by_cases h : r % 2 = 0
      · rw [if_pos h, if_pos h] at hd'; rw [if_neg (by omega), if_neg (by omega)]; exact hd'
      · rw [if_neg h, if_neg h] at hd'; rw [if_pos (by omega), if_pos (by omega)]; exact hd'
    · obtain ⟨c1, D1, g1, l1⟩ := gg1 c D g
      obtain ⟨c2, D2, g2, l2⟩ := gg' c1 D1 g1
      exact ⟨c2, D2, g2, by omega⟩

theorem less_irrefl : ∀ (a : Word), less a a = false
  | [] => rfl
  | x :: a => by simp [less, less_irrefl a]
theorem less_asymm : ∀ {a b : Word}, less a b = true → less b a = false
  | [], [], h => by cases h
  | [], _ :: _, _ => rfl
  | _ :: _, [], h => by cases h
  | x :: a, y :: b, h => by
    unfold less at h ⊢
    simp only [Bool.or_eq_true, Bool.and_eq_true, decide_eq_true_eq, beq_iff_eq, Bool.or_eq_false_iff, Bool.and_eq_false_iff, decide_eq_false_iff_not] at h ⊢
    rcases h with h | ⟨rfl, h⟩
    · refine ⟨fun h' => ?_, .inl ?_⟩
      · simp only [UInt8.lt_iff_toNat_lt] at h h'; omega
      · rw [beq_eq_false_iff_ne]; rintro rfl; simp only [UInt8.lt_iff_toNat_lt] at h; omega
    · exact ⟨fun h' => by simp only [UInt8.lt_iff_toNat_lt] at h'; omega, .inr (less_asymm h)⟩

/-- The state while the corners of the new tile y over the side s of x are looked at; those below T are done. H is the graph ahead of it. -/
structure LI (o : Ord) (E : Nat → Prop) (H G : List Node) (x s T : Nat) : Prop where
  inv : Inv o G (fun i => E i ∨ i = H.length)
  ext : Ext H G (wd H x).length
  xy : tod G H.length s = some x
  dy : dnb G H.length s = true
  yl : H.length < G.length
  rest : ∀ r, T ≤ r → r ≠ s → tod G H.length r = none
  up : ∀ r j, tod G H.length r = some j → dnb G H.length r = true
  done : ∀ r v, r < T → r ≠ s → 0 < o.m s r → Dch H (o.m s r - 1) x r s v → dnb G H.length r = true
  nf1 : ∀ r j, dnb G H.length r = true → tod G H.length r = some j → less (wd G j ++ letter r) (wd G H.length) = false
  nf2 : ∃ r j, dnb G H.length r = true ∧ tod G H.length r = some j ∧ wd G H.length = wd G j ++ letter r
  gh : ∀ c D, Gh o H c D → ∃ c' D', Gh o G c' D' ∧ D' ≤ D + 2

theorem letter_lt {t : Nat} (ht : t < 3) {c : UInt8} (h : c ∈ letter t) : c.toNat < 3 := by
  unfold letter at h
  rw [List.mem_singleton] at h
  subst h
  simp only [UInt8.toNat_ofNat']
  omega

theorem corner_ok {o : Ord} (F : Fine o) {E : Nat → Prop} {f : List Node → Nat → Nat → Option (List Node × Nat)} {H G : List Node} {x s T lim : Nat} (L : LI o E H G x s T) (IH : Inv o H E) (hT : T < 3)
    (hx : x < H.length) (hE : ∀ i, E i → i < H.length ∧ (wd H x).length + 1 < (wd H i).length) (hf : StepOk o (fun i => E i ∨ i = H.length) (wd H x).length f) (hlim : (wd H x).length < lim) :
    ∃ G', cornerL lim o f x s H.length G T = some G' ∧ LI o E H G' x s (T + 1) := by
  have I := L.inv
  obtain ⟨hs, hxs⟩ := I.sym L.xy
  have hxG : x < G.length := by have := L.ext.len; omega
  have hwx : wd G x = wd H x := L.ext.hwd hx
  have hwxl : (wd G x).length = (wd H x).length := by rw [hwx]
  have hyd : dn G H.length s = some x := dn_some.2 ⟨L.dy, L.xy⟩
  have hly : (wd G H.length).length = (wd G x).length + 1 := (I.lo' hyd).2.2.2.2
  have keep : (∀ r v, r = T → r ≠ s → 0 < o.m s r → Dch H (o.m s r - 1) x r s v → dnb G H.length r = true) → LI o E H G x s (T + 1) := fun h =>
    ⟨L.inv, L.ext, L.xy, L.dy, L.yl, fun r hr => L.rest r (by omega), L.up, fun r v hr => if hrT : r = T then h r v hrT else L.done r v (by omega), L.nf1, L.nf2, L.gh⟩
  unfold cornerL
  by_cases hc : T = s ∨ o.m s T = 0
  · rw [if_pos hc]
    exact ⟨G, rfl, keep fun r v hr h1 h2 => by subst hr; rcases hc with h | h; exact absurd h h1; omega⟩
  rw [if_neg hc]
  have hTs : T ≠ s := fun h => hc (.inl h)
  obtain ⟨k, hk⟩ : ∃ k, o.m s T = k + 2 := ⟨o.m s T - 2, by have := F.one s T hs hT hTs.symm; have : o.m s T ≠ 0 := fun h => hc (.inr h); omega⟩
  rcases lowest_dch (k := o.m s T - 1) (a := T) (b := s) I hxG with ⟨v, h1, h2⟩ | ⟨h1, h2⟩
  case inr =>
    rw [h1]
    exact ⟨G, rfl, keep fun r v hr h3 h4 h5 => absurd (L.ext.dch h5) (by subst hr; exact h2 v)⟩
  rw [h1]
  simp only
  rw [show o.m s T - 1 = k + 1 by omega] at h2 ⊢
  -- x is done
  have hxE : ¬ (E x ∨ x = H.length) := by
    rintro (h | h)
    · have := (hE x h).2; omega
    · omega
  have hyk : Dch G (k + 1 + 1) H.length s T v := ⟨x, hyd, h2⟩
  -- v is the bottom of the corner
  have hbot : ∀ c, c = s ∨ c = T → dnb G v c = false := by
    intro c hc'
    cases hd : dnb G v c with
    | false => rfl
    | true =>
      obtain ⟨v2, j, e1, e2⟩ := Dch_more I hyk hc' hd
      cases hyd.symm.trans e1
      have := I.full (b := s) hxE hTs hT hs (by rw [o.m_comm]; omega) (by rw [o.m_comm, hk]; exact e2)
      obtain ⟨j, e3⟩ := I.lo_of this
      have e4 := (I.lo' e3).2.2
      cases hxs.symm.trans e4.1
      omega
  have hv : v < G.length := Dch_lt I hxG h2
  have hlv := Dch_len I h2
  have hEG : ∀ i, E i ∨ i = H.length → i < G.length ∧ (wd H x).length < (wd G i).length := by
    rintro i (h | rfl)
    · refine ⟨by have := (hE i h).1; have := L.ext.len; omega, ?_⟩
      rw [L.ext.hwd (hE i h).1]; have := (hE i h).2; omega
    · exact ⟨L.yl, by omega⟩
  -- up on the other side
  obtain ⟨G1, z, h3, I1, X1, hz, hd1, ggc⟩ : ∃ G1 z, climb f (k + 1) G v (if o.m s T % 2 = 0 then s else T) (if o.m s T % 2 = 0 then T else s) = some (G1, z) ∧ Inv o G1 (fun i => E i ∨ i = H.length) ∧
      Ext G G1 ((wd H x).length - 1) ∧ z < G1.length ∧ Dch G1 (k + 1) z s T v ∧ ∀ c D, Gh o G c D → ∃ c' D', Gh o G1 c' D' ∧ D' ≤ D + 2 * ((k + 1 : Nat) : Int) := by
    by_cases hp : o.m s T % 2 = 0
    · rw [if_pos hp, if_pos hp]
      obtain ⟨G1, z, e1, e2, e3, e4, e5, e6⟩ := climb_ok hf (v := v) (k + 1) 0 G v s T I hEG hv hv hs hT hTs.symm (hbot s (.inl rfl)) (hbot T (.inr rfl)) rfl (by omega) (by omega)
      rw [if_neg (by omega), if_neg (by omega), Nat.zero_add] at e5
      exact ⟨G1, z, e1, e2, e3, e4, e5, e6⟩
    · rw [if_neg hp, if_neg hp]
      obtain ⟨G1, z, e1, e2, e3, e4, e5, e6⟩ := climb_ok hf (v := v) (k + 1) 0 G v T s I hEG hv hv hT hs hTs (hbot T (.inr rfl)) (hbot s (.inl rfl)) rfl (by rw [o.m_comm]; omega) (by omega)
      rw [if_pos (by omega), if_pos (by omega), Nat.zero_add] at e5
      exact ⟨G1, z, e1, e2, e3, e4, e5, e6⟩
  rw [h3]
  simp only
  have hyG1 : H.length < G1.length := by have := X1.len; have := L.yl; omega
  have hty : ∀ r, tod G1 H.length r = tod G H.length r := fun r => X1.same L.yl (by omega)
  have hdy : ∀ r, dnb G1 H.length r = dnb G H.length r := fun r => X1.hdnb L.yl
  have hwy : wd G1 H.length = wd G H.length := X1.hwd L.yl
  have hwx1 : wd G1 x = wd H x := by rw [X1.hwd hxG, hwx]
  have hwv : wd G1 v = wd G v := X1.hwd hv
  have hlz := Dch_len I1 hd1
  rw [hwv] at hlz
  have hzlen : (wd G1 z).length = (wd H x).length := by rw [← hwx]; omega
  have hzy : z ≠ H.length := by rintro rfl; rw [hwy, hly, hwx] at hzlen; omega
  have hv1 : ∀ c, c = s ∨ c = T → dnb G1 v c = false := fun c h => by rw [X1.hdnb hv]; exact hbot c h
  have hyt : tod G1 H.length T = none := by rw [hty]; exact L.rest T (Nat.le_refl _) hTs
  have hxy1 : tod G1 H.length s = some x := by rw [hty]; exact L.xy
  have hyd1 : dn G1 H.length s = some x := X1.hdn hyd
  have h2' := X1.dch h2
  have hyk1 : Dch G1 (k + 1 + 1) H.length s T v := ⟨x, hyd1, h2'⟩
  have hzt : tod G1 z T = none := by
    cases hw : tod G1 z T with
    | none => rfl
    | some w =>
      have e1 := I1.notdown (l := T) (l' := s) hTs (hv1 T (.inr rfl)) (hv1 s (.inl rfl)) (by rw [o.m_comm]; omega) hd1
      obtain ⟨e2, e3⟩ := I1.rise hw e1
      have hwy' : w ≠ H.length := by rintro rfl; have := (I1.lo' e2).2.2.1; rw [hyt] at this; cases this
      have hwE : ¬ (E w ∨ w = H.length) := by
        rintro (h | h)
        · have := (hE w h).2
          rw [X1.hwd (by have := (hE w h).1; have := L.ext.len; omega), L.ext.hwd (hE w h).1] at e3
          omega
        · exact hwy' h
      have e4 : Dch G1 (k + 1 + 1) w T s v := ⟨z, e2, hd1⟩
      have e5 := I1.full (b := s) hwE hTs hT hs (by rw [o.m_comm]; omega) (by rw [o.m_comm, hk]; exact e4)
      obtain ⟨_, v', e6, e7, _⟩ := I1.top e5 (I1.lo' e2).2.1 hTs.symm
      rw [hk] at e6 e7
      cases Dch_fun e7 e4
      obtain ⟨x', e8, e9⟩ := e6
      cases Dch_inj I1 e9 h2'
      have e10 := (I1.lo' e8).2.2.2.1
      have e11 := (I1.sym hxy1).2
      rw [e10] at e11
      exact absurd (Option.some.inj e11) hwy'
  have honly : ∀ r, r ≠ s → dnb G1 H.length r = false := by
    intro r hr
    cases hd : dnb G1 H.length r with
    | false => rfl
    | true =>
      obtain ⟨j, e1⟩ := I1.lo_of hd
      have hrT : r ≠ T := by rintro rfl; have := (I1.lo' e1).2.2.1; rw [hyt] at this; cases this
      exact (I1.downs.no F (s := r) (t := s) (u := T) ⟨(I1.lo' e1).1, hs, hT, hr, hTs.symm, hrT⟩ e1 hyd1 (by omega) (by rw [hk]; exact Dch_Ch hyk1)).elim
  have hup1 : ∀ r j, tod G1 H.length r = some j → dnb G1 H.length r = true := fun r j h => by rw [hty] at h; rw [hdy]; exact L.up r j h
  have hEqv : Eqv o (wd G1 z ++ letter T) (wd G1 H.length) := by
    have e1 := (Dch_eqv I1 hd1).right (letter T)
    have e2 := Dch_eqv I1 hyk1
    have e3 := braid (o := o) hs hT hTs.symm (by omega)
    rw [hk] at e3
    refine e1.symm.trans (Eqv.trans ?_ e2)
    rw [List.append_assoc]
    exact (e3.left (wd G1 v)).symm
  obtain ⟨I2, hmono⟩ := I1.link hz hyG1 hT (.inr rfl) (by rw [hwy, hly, hwx, hzlen]) hzt hyt hup1 hEqv (fun r hr hd => by
    have hrs : r = s := by
      by_cases h : r = s
      · exact h
      · rw [honly r h] at hd; cases hd
    subst hrs
    have hmono0 : ∀ i a j, dn G1 i a = some j → dn (link G1 z H.length T) i a = some j := fun i a j h => by
      obtain ⟨h4, h5⟩ := dn_some.1 h
      refine dn_some.2 ⟨?_, ?_⟩
      · rw [dnb_link hyG1]
        by_cases hh : i = H.length ∧ a = T
        · rw [if_pos hh]
        · rw [if_neg hh]; exact h4
      · rw [tod_link hz hyG1 hzy, if_neg (by rintro ⟨rfl, rfl⟩; rw [hzt] at h5; cases h5), if_neg (by rintro ⟨rfl, rfl⟩; rw [hyt] at h5; cases h5)]; exact h5
    have hvy : v ≠ H.length := by rintro rfl; omega
    refine ⟨by omega, v, ?_, ?_, ?_, ?_⟩
    · rw [hk]; exact Dch_mono hmono0 hyk1
    · rw [hk]
      refine ⟨z, dn_some.2 ⟨by rw [dnb_link hyG1, if_pos ⟨rfl, rfl⟩], ?_⟩, Dch_mono hmono0 hd1⟩
      rw [tod_link hz hyG1 hzy, if_neg (fun e => hzy e.2.symm), if_pos ⟨rfl, rfl⟩]
    · rw [dnb_link hyG1, if_neg (fun e => hvy e.1)]; exact hv1 r (.inl rfl)
    · rw [dnb_link hyG1, if_neg (fun e => hvy e.1)]; exact hv1 T (.inr rfl))
  rw [if_neg hzy]
  have hzl2 : z < (link G1 z H.length T).length := by rw [length_link]; exact hz
  have hyl2 : H.length < (link G1 z H.length T).length := by rw [length_link]; exact hyG1
  rw [List.getElem?_eq_getElem hzl2, List.getElem?_eq_getElem hyl2]
  simp only
  have hw1 : ((link G1 z H.length T)[z]).word = wd G1 z := by rw [← wd_some (List.getElem?_eq_getElem hzl2), wd_link]
  have hw2 : ((link G1 z H.length T)[H.length]).word = wd G1 H.length := by rw [← wd_some (List.getElem?_eq_getElem hyl2), wd_link]
  rw [hw1, hw2, if_neg (by rw [hwy, hly, hwx, hzlen]; omega)]
  have hT2 : ∀ r, tod (link G1 z H.length T) H.length r = if r = T then some z else tod G1 H.length r := fun r => by
    rw [tod_link hz hyG1 hzy, if_neg (fun e => hzy e.2.symm)]
    by_cases h : r = T
    · rw [if_pos ⟨h, rfl⟩, if_pos h]
    · rw [if_neg (fun e => h e.1), if_neg h]
  have hD2 : ∀ r, dnb (link G1 z H.length T) H.length r = if r = T then true else dnb G1 H.length r := fun r => by
    rw [dnb_link hyG1]
    by_cases h : r = T
    · rw [if_pos ⟨rfl, h⟩, if_pos h]
    · rw [if_neg (fun e => h e.2), if_neg h]
  have hup2 : ∀ r j, tod (link G1 z H.length T) H.length r = some j → dnb (link G1 z H.length T) H.length r = true := fun r j h => by
    rw [hT2] at h
    rw [hD2]
    by_cases hr : r = T
    · rw [if_pos hr]
    · rw [if_neg hr] at h ⊢; exact hup1 r j h
  have X : Ext H G1 (wd H x).length := L.ext.trans (X1.weak (by omega))
  have X2 : Ext H (link G1 z H.length T) (wd H x).length := by
    refine ⟨by rw [length_link]; exact X.len, fun h => by rw [wd_link]; exact X.hwd h, fun {i r} h => by rw [dnb_link hyG1, if_neg (by rintro ⟨e, _⟩; omega)]; exact X.hdnb h, fun {i r j} h => ?_, fun {i r} g1 g2 => ?_, fun h => by rw [wd_link]; exact X.new h⟩
    · have := X.htod h
      rw [tod_link hz hyG1 hzy, if_neg (by rintro ⟨rfl, rfl⟩; rw [hzt] at this; cases this), if_neg (by rintro ⟨rfl, rfl⟩; rw [hyt] at this; cases this)]; exact this
    · rw [tod_link hz hyG1 hzy, if_neg (by rintro ⟨rfl, rfl⟩; rw [X.hwd g1] at hzlen; omega), if_neg (by rintro ⟨_, rfl⟩; omega)]; exact X.same g1 g2
  have hys2 : tod (link G1 z H.length T) H.length s = some x := by rw [hT2, if_neg hTs.symm]; exact hxy1
  have hds2 : dnb (link G1 z H.length T) H.length s = true := by rw [hD2, if_neg hTs.symm, hdy]; exact L.dy
  have hrest2 : ∀ r, T + 1 ≤ r → r ≠ s → tod (link G1 z H.length T) H.length r = none := fun r hr h => by rw [hT2, if_neg (by omega), hty]; exact L.rest r (by omega) h
  have hdone2 : ∀ r v, r < T + 1 → r ≠ s → 0 < o.m s r → Dch H (o.m s r - 1) x r s v → dnb (link G1 z H.length T) H.length r = true := fun r v hr h1 h2 h3 => by
    rw [hD2]
    by_cases h : r = T
    · rw [if_pos h]
    · rw [if_neg h, hdy]; exact L.done r v (by omega) h1 h2 h3
  -- the word ahead was that over s
  have hold : wd G1 H.length = wd H x ++ letter s := by
    obtain ⟨r, j, e1, e2, e3⟩ := L.nf2
    have hr : r = s := by
      by_cases h : r = s
      · exact h
      · have := honly r h; rw [hdy, e1] at this; cases this
    subst hr
    cases L.xy.symm.trans e2
    rw [hwy, e3, hwx]
  have hwn : ∀ c ∈ wd G1 z ++ letter T, c.toNat < 3 := fun c hc => by
    rcases List.mem_append.1 hc with h | h
    · exact I1.lets z c h
    · exact letter_lt hT h
  have h0 : H.length ≠ 0 := by omega
  have hxy0 : x ≠ H.length := by omega
  have hgh : ∀ c D, Gh o H c D → ∃ c' D', Gh o (link G1 z H.length T) c' D' ∧ D' ≤ D + 2 := fun c D g => by
    obtain ⟨c1, D1, g1, l1⟩ := L.gh c D g
    obtain ⟨c2, D2, g2, l2⟩ := ggc c1 D1 g1
    obtain ⟨c3, g3⟩ := Gh.close (x := x) I1 g2 hz hyG1 hs hT hTs.symm hk (F.le s T) hzt hyt hyk1 hd1 (hv1 s (.inl rfl)) (hv1 T (.inr rfl))
    exact ⟨c3, _, g3, by omega⟩
  by_cases hless : less (wd G1 z ++ letter T) (wd G1 H.length) = true
  · rw [if_pos hless]
    have hW : ∀ i, i ≠ H.length → wd ((link G1 z H.length T).modify H.length (setWord (wd G1 z ++ letter T))) i = wd G1 i := fun i h => by rw [wd_word hyl2, if_neg h, wd_link]
    have hWy : wd ((link G1 z H.length T).modify H.length (setWord (wd G1 z ++ letter T))) H.length = wd G1 z ++ letter T := by rw [wd_word hyl2, if_pos rfl]
    have hlw : (wd G1 z ++ letter T).length = (wd G1 H.length).length := by rw [hwy, hly, hwx]; simp [letter, hzlen]
    refine ⟨_, rfl, I2.word hyl2 (.inr rfl) h0 hup2 (by rw [wd_link]; exact hEqv) (by rw [wd_link]; exact hlw) hwn, ?_, by rw [tod_word]; exact hys2, by rw [dnb_word]; exact hds2, by rw [List.length_modify]; exact hyl2,
      fun r hr h => by rw [tod_word]; exact hrest2 r hr h, fun r j h => by rw [tod_word] at h; rw [dnb_word]; exact hup2 r j h, fun r v a1 a2 a3 a4 => by rw [dnb_word]; exact hdone2 r v a1 a2 a3 a4, fun r j a1 a2 => ?_, ⟨T, z, ?_, ?_, ?_⟩, fun c D g => by obtain ⟨c1, D1, g1, l1⟩ := hgh c D g; exact ⟨c1, D1, g1.word _ _, l1⟩⟩
    · refine ⟨by rw [List.length_modify]; exact X2.len, fun {i} h => by rw [hW i (by omega)]; exact X.hwd h, fun h => by rw [dnb_word]; exact X2.hdnb h, fun h => by rw [tod_word]; exact X2.htod h, fun h1 h2 => by rw [tod_word]; exact X2.same h1 h2, fun {i} h => ?_⟩
      by_cases hi : i = H.length
      · subst hi; rw [hWy, hlw]; exact X.new h
      · rw [hW i hi]; exact X.new h
    · rw [dnb_word] at a1
      rw [tod_word, hT2] at a2
      rw [hWy]
      by_cases hr : r = T
      · rw [if_pos hr] at a2; cases a2; rw [hW z hzy, hr]; exact less_irrefl _
      · rw [hD2, if_neg hr] at a1
        have hrs : r = s := by
          by_cases h : r = s
          · exact h
          · rw [honly r h] at a1; cases a1
        subst hrs
        rw [if_neg hr, hxy1] at a2; cases a2
        rw [hW x hxy0, hwx1, ← hold]; exact less_asymm hless
    · rw [dnb_word, hD2, if_pos rfl]
    · rw [tod_word, hT2, if_pos rfl]
    · rw [hWy, hW z hzy]
  · rw [if_neg hless]
    have hless' : less (wd G1 z ++ letter T) (wd G1 H.length) = false := by simpa using hless
    refine ⟨_, rfl, I2, X2, hys2, hds2, hyl2, hrest2, hup2, hdone2, fun r j a1 a2 => ?_, ⟨s, x, hds2, hys2, by rw [wd_link, wd_link, hwx1, hold]⟩, hgh⟩
    rw [wd_link, wd_link]
    rw [hT2] at a2
    by_cases hr : r = T
    · rw [if_pos hr] at a2; cases a2; rw [hr]; exact hless'
    · rw [hD2, if_neg hr] at a1
      rw [if_neg hr] at a2
      have hrs : r = s := by
        by_cases h : r = s
        · exact h
        · rw [honly r h] at a1; cases a1
      subst hrs
      rw [hxy1] at a2; cases a2
      rw [hwx1, ← hold]; exact less_irrefl _

theorem corners_ok {o : Ord} (F : Fine o) {E : Nat → Prop} {f : List Node → Nat → Nat → Option (List Node × Nat)} {H : List Node} {x s lim : Nat} (IH : Inv o H E)
    (hx : x < H.length) (hE : ∀ i, E i → i < H.length ∧ (wd H x).length + 1 < (wd H i).length) (hf : StepOk o (fun i => E i ∨ i = H.length) (wd H x).length f) (hlim : (wd H x).length < lim) :
    ∀ r, r ≤ 3 → ∀ G, LI o E H G x s (3 - r) → ∃ G', cornersL lim o f x s H.length r G = some G' ∧ LI o E H G' x s 3 := by
  intro r
  induction r with
  | zero => intro _ G L; exact ⟨G, rfl, L⟩
  | succ r ih =>
    intro hr G L
    obtain ⟨G1, h1, L1⟩ := corner_ok F L IH (by omega) hx hE hf hlim
    rw [show 3 - (r + 1) + 1 = 3 - r by omega] at L1
    obtain ⟨G', h2, L'⟩ := ih (by omega) G1 L1
    exact ⟨G', by unfold cornersL; rw [h1]; exact h2, L'⟩

/-- A step of the graph. -/
theorem step_ok {o : Ord} (F : Fine o) {lim : Nat} : ∀ fuel E, StepOk o E (min lim fuel) (stepL lim o fuel) := by
  intro fuel
  induction fuel with
  | zero => intro E G x s _ _ _ h; omega
  | succ fuel ih =>
    intro E G x s I hx hs hB hE
    have hn : G[x]? = some G[x] := List.getElem?_eq_getElem hx
    have htx : tod G x s = G[x].to s := by unfold tod; rw [hn]
    have hwx : wd G x = G[x].word := by unfold wd; rw [hn]
    unfold stepL
    rw [hn]
    simp only
    rw [← htx]
    cases ht : tod G x s with
    | some y => exact ⟨G, y, rfl, I, Ext.refl _ _, ht, fun c D g => ⟨c, D, g, by omega⟩⟩
    | none =>
      simp only
      rw [← hwx, if_neg (by omega)]
      -- the new tile
      have hlt : ∀ c ∈ wd G x ++ letter s, c.toNat < 3 := fun c hc => by
        rcases List.mem_append.1 hc with h | h
        · exact I.lets x c h
        · exact letter_lt hs h
      have I0 := I.fresh hlt
      have hx0 : x < (G ++ [fresh (wd G x ++ letter s)]).length := by simp; omega
      have hy0 : G.length < (G ++ [fresh (wd G x ++ letter s)]).length := by simp
      have hty0 : ∀ r, tod (G ++ [fresh (wd G x ++ letter s)]) G.length r = none := fun r => by
        rw [tod_fresh]
        cases h : tod G G.length r with
        | none => rfl
        | some j => have := tod_lt h; omega
      have hdy0 : ∀ r, dnb (G ++ [fresh (wd G x ++ letter s)]) G.length r = false := fun r => by
        rw [dnb_fresh]
        cases h : dnb G G.length r with
        | false => rfl
        | true => have := dnb_lt h; omega
      have hwx0 : wd (G ++ [fresh (wd G x ++ letter s)]) x = wd G x := by rw [wd_fresh, if_neg (by omega)]
      have hwy0 : wd (G ++ [fresh (wd G x ++ letter s)]) G.length = wd G x ++ letter s := by rw [wd_fresh, if_pos rfl]
      have hxy : x ≠ G.length := by omega
      obtain ⟨I1, _⟩ := I0.link (z := x) (y := G.length) (t := s) hx0 hy0 hs (.inr rfl) (by rw [hwy0, hwx0]; simp [letter]) (by rw [tod_fresh]; exact ht) (hty0 s) (fun r j h => by rw [hty0] at h; cases h)
        (by rw [hwy0, hwx0]; exact .refl _) (fun r _ h => by rw [hdy0] at h; cases h)
      have hsp : sprout G G[x] x s = link (G ++ [fresh (wd G x ++ letter s)]) x G.length s := by unfold sprout; rw [hwx]
      have hT := fun i r => tod_link (t := s) (i := i) (r := r) hx0 hy0 hxy
      have hD := fun i r => dnb_link (z := x) (t := s) (i := i) (r := r) hy0
      have L0 : LI o E G (sprout G G[x] x s) x s (3 - 3) := by
        rw [hsp]
        refine ⟨I1, ⟨by rw [length_link]; simp, fun {i} h => by rw [wd_link, wd_fresh, if_neg (by omega)], fun {i r} h => by rw [hD, if_neg (by rintro ⟨e, _⟩; omega), dnb_fresh], fun {i r j} h => ?_, fun {i r} h h1 => ?_, fun {i} h => ?_⟩, ?_, ?_, by rw [length_link]; exact hy0, fun r _ h => ?_, fun r j h => ?_, fun r v h => by omega, fun r j h h1 => ?_, ⟨s, x, ?_, ?_, ?_⟩, fun c D g => ⟨c, D + 2, g.sprout _ hx hs ht, Int.le_refl _⟩⟩
        · rw [hT, if_neg (by rintro ⟨rfl, rfl⟩; rw [ht] at h; cases h), if_neg (by rintro ⟨_, rfl⟩; have := tod_lt h; omega), tod_fresh]; exact h
        · rw [hT, if_neg (by rintro ⟨_, rfl⟩; omega), if_neg (by rintro ⟨_, rfl⟩; omega), tod_fresh]
        · rw [wd_link]
          by_cases hi : i = G.length
          · subst hi; rw [hwy0]; simp [letter]
          · rw [wd_fresh, if_neg hi, wd_out h]; exact Nat.zero_le _
        · rw [hT, if_neg (by rintro ⟨_, e⟩; exact hxy e.symm), if_pos ⟨rfl, rfl⟩]
        · rw [hD, if_pos ⟨rfl, rfl⟩]
        · rw [hT, if_neg (fun e => h e.1), if_neg (fun e => h e.1), hty0]
        · rw [hT] at h
          rw [hD]
          by_cases hr : r = s
          · rw [if_pos ⟨rfl, hr⟩]
          · rw [if_neg (fun e => hr e.1), if_neg (fun e => hr e.1), hty0] at h; cases h
        · by_cases hr : r = s
          · subst hr
            rw [hT, if_neg (by rintro ⟨_, e⟩; exact hxy e.symm), if_pos ⟨rfl, rfl⟩] at h1
            cases h1
            rw [wd_link, wd_link, hwx0, hwy0]; exact less_irrefl _
          · rw [hD, if_neg (fun e => hr e.2), hdy0] at h; cases h
        · rw [hD, if_pos ⟨rfl, rfl⟩]
        · rw [hT, if_neg (by rintro ⟨_, e⟩; exact hxy e.symm), if_pos ⟨rfl, rfl⟩]
        · rw [wd_link, wd_link, hwx0, hwy0]
      have hf : StepOk o (fun i => E i ∨ i = G.length) (wd G x).length (stepL lim o fuel) := fun G2 z l a1 a2 a3 a4 a5 => ih _ G2 z l a1 a2 a3 (by omega) a5
      obtain ⟨G', h1, L⟩ := corners_ok (lim := lim) F I hx hE hf (by omega) 3 (Nat.le_refl _) _ L0
      rw [h1]
      have hys := dn_some.2 ⟨L.dy, L.xy⟩
      refine ⟨G', G.length, rfl, ?_, L.ext, (L.inv.sym L.xy).2, L.gh⟩
      refine ⟨L.inv.pos, L.inv.root, L.inv.lets, L.inv.sym, L.inv.lo, L.inv.up, L.inv.snd, L.inv.top, fun {i a b v} hEi hab ha hb hm h => ?_, fun {i r j} hEi h2 h3 => ?_, fun {i} hEi hi h0 => ?_⟩
      · by_cases hi : i = G.length
        · subst hi
          obtain ⟨m, hm'⟩ : ∃ m, o.m a b = m + 1 := ⟨o.m a b - 1, by omega⟩
          by_cases has : a = s
          · subst has
            have h' := h
            rw [hm'] at h'
            obtain ⟨j, h2, h3⟩ := h'
            cases hys.symm.trans h2
            exact L.done b v hb hab.symm hm (by rw [hm', Nat.add_sub_cancel]; exact L.ext.dchback I hx h3)
          · by_cases hbs : b = s
            · rw [hbs]; exact L.dy
            · have h' := h
              rw [hm'] at h'
              obtain ⟨j, h2, _⟩ := h'
              exact (L.inv.downs.no F (s := s) (t := a) (u := b) ⟨hs, ha, hb, Ne.symm has, hab, Ne.symm hbs⟩ hys h2 hm (Dch_Ch h)).elim
        · exact L.inv.full (fun e => e.elim hEi hi) hab ha hb hm h
      · by_cases hi : i = G.length
        · subst hi; exact L.nf1 r j h2 h3
        · exact L.inv.nf1 (fun e => e.elim hEi hi) h2 h3
      · by_cases hi' : i = G.length
        · subst hi'; exact L.nf2
        · exact L.inv.nf2 (fun e => e.elim hEi hi') hi h0

/-- The graph of the first tile alone. -/
theorem inv_start (o : Ord) : Inv o start (fun _ => False) := by
  have ht : ∀ i r, tod start i r = none := fun i r => by
    unfold tod start
    cases i with
    | zero => rfl
    | succ i => simp
  have hd : ∀ i r, dnb start i r = false := fun i r => by
    unfold dnb start
    cases i with
    | zero => rfl
    | succ i => simp
  have hw : ∀ i, wd start i = [] := fun i => by
    unfold wd start
    cases i with
    | zero => rfl
    | succ i => simp
  refine ⟨by simp [start], hw 0, fun i c hc => ?_, fun h => ?_, fun h => ?_, fun h _ => ?_, fun h => ?_, fun h _ _ => ?_, fun {i a b v} _ _ _ _ hm h => ?_, fun _ h _ => ?_, fun _ h h0 => ?_⟩
  · rw [hw] at hc; cases hc
  · rw [ht] at h; cases h
  · rw [hd] at h; cases h
  · rw [ht] at h; cases h
  · rw [ht] at h; cases h
  · rw [hd] at h; cases h
  · obtain ⟨m, hm'⟩ : ∃ m, o.m a b = m + 1 := ⟨o.m a b - 1, by omega⟩
    rw [hm'] at h
    obtain ⟨j, h1, _⟩ := h
    have := (dn_some.1 h1).1
    rw [hd] at this; cases this
  · rw [hd] at h; cases h
  · simp [start] at h; omega

end Hy
