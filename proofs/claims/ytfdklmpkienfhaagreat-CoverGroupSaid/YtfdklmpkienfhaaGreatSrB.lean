/- slices.SortFunc at actions. -/
import Derived.Test.YtfdklmpkienfhaaGreatSrA
namespace Go.Proofs.YtfdklmpkienfhaaGreat
set_option linter.unusedSimpArgs false
set_option linter.unusedVariables false
open Go.RowKit
open Go.Op (bytesLess)

/-- A pair: an action's value and its lists. -/
abbrev VA := (Nat → Value) × (Nat → List Int)
def encA3 (x : VA) : List Value := [x.1 0, x.1 1, x.1 2]
def flatV (D : List VA) : List Value := D.flatMap encA3
theorem flatV_len : ∀ D : List VA, (flatV D).length = D.length * 3
  | [] => rfl
  | x :: D => by
    rw [show flatV (x :: D) = encA3 x ++ flatV D from rfl, List.length_append, flatV_len D, List.length_cons]
    simp [encA3]
    omega
theorem get_some (L : List Value) (c : Nat) (h : c < L.length) : L[c]? = some L[c]! := by rw [List.getElem?_eq_getElem h, getElem!_pos L c h]
theorem flatV_at {c : Nat} (hc : c < 3) : ∀ (D : List VA) (k : Nat) (x : VA), D[k]? = some x → (flatV D)[k * 3 + c]? = (encA3 x)[c]?
  | [], k, x, h => by simp at h
  | y :: D, 0, x, h => by
    simp at h
    subst h
    show ((encA3 y) ++ flatV D)[0 * 3 + c]? = _
    rw [Nat.zero_mul, Nat.zero_add, List.getElem?_append_left (by simp [encA3]; exact hc)]
  | y :: D, k + 1, x, h => by
    show ((encA3 y) ++ flatV D)[(k + 1) * 3 + c]? = _
    rw [List.getElem?_append_right (by simp [encA3]; omega), show (k + 1) * 3 + c - (encA3 y).length = k * 3 + c by simp [encA3]; omega]
    exact flatV_at hc D k x (by simpa using h)

/-- An action that lies in memory, in blocks other than g. -/
def GoodA (w : World) (g : Nat) (x : VA) : Prop := (∀ i, i < 3 → RSC (fun k => k ≠ g ∧ k < w.heap.size) w (x.1 i) (x.2 i)) ∧ 0 < (x.2 0).length ∧ (∀ i, i < 3 → (x.2 i).length ≤ 1000) ∧ ∀ i, i < 3 → ∀ y ∈ x.2 i, 0 ≤ y ∧ y < 256

def cmpA {α : Type} (f : α → List UInt8) (x y : α) : Int := if bytesLess (f x) (f y) then -1 else 1
theorem ltA {α : Type} (f : α → List UInt8) (x y : α) : ltOf (cmpA f) x y = bytesLess (f x) (f y) := by
  unfold ltOf cmpA
  cases h : bytesLess (f x) (f y) <;> simp
theorem swoA {α : Type} (f : α → List UInt8) : Sort.SWO (ltOf (cmpA f)) where
  irrefl x := by rw [ltA]; exact bytesLess_irrefl _
  trans x y z h1 h2 := by rw [ltA] at *; exact bytesLess_trans h1 h2
  ntrans x y z h1 h2 := by
    rw [ltA] at *
    cases h3 : bytesLess (f x) (f z) with
    | false => rfl
    | true =>
      by_cases e : f y = f x
      · rw [e, h3] at h2; cases h2
      · rcases bytesLess_total e with h4 | h4
        · rw [bytesLess_trans h4 h3] at h2; cases h2
        · rw [h4] at h1; cases h1

theorem enters_cmp : ∀ args w, (callFunc 115 args).run Tryz.prog w = .ok (.enter 115 args) w := enters_of Tryz.func115 (by kernel_rfl) rfl

set_option maxRecDepth 100000 in
set_option maxHeartbeats 1000000 in
theorem sort_acts {w : World} {g off cap : Nat} {D : List VA} (hq : QRow w g 3 (.slice (some ⟨g, off, none⟩) D.length cap) D.length (flatV D)) (hA : ∀ x ∈ D, GoodA w g x) (hne : D ≠ []) (hn : D.length ≤ 100000) :
    Calls Tryz.prog 114 #[.slice (some ⟨g, off, none⟩) D.length cap, .func (.func 115) #[] #[]] w fun e w' => e = .returned (.tuple #[]) ∧
      ∃ L : List VA, L.Perm D ∧ L.Pairwise (fun x y => bytesLess (codeL y.2) (codeL x.2) = false) ∧ (∀ j u, (flatV L)[j]? = some u → w'.cell? ⟨g, off + j, none⟩ = some u) ∧ Only (fun k => k = g ∨ w.heap.size ≤ k) w w' := by
  obtain ⟨off', cap', he, q1, q2, q3, q4, q5, q6⟩ := hq
  simp only [Value.slice.injEq, Option.some.injEq, Addr.mk.injEq, true_and, and_true] at he
  obtain ⟨rfl, rfl⟩ := he
  obtain ⟨x0, D0, rfl⟩ : ∃ x0 D0, D = x0 :: D0 := by cases D with | nil => exact absurd rfl hne | cons x l => exact ⟨x, l, rfl⟩
  generalize hDD : x0 :: D0 = D at *
  haveI : Inhabited { x : VA // GoodA w g x } := ⟨⟨x0, hA x0 (by rw [← hDD]; exact List.mem_cons_self)⟩⟩
  obtain ⟨d, hd⟩ : ∃ d : Array { x : VA // GoodA w g x }, d.toList.map (·.1) = D := ⟨(D.attach.map fun x => (⟨x.1, hA x.1 x.2⟩ : { x : VA // GoodA w g x })).toArray, by simp; exact List.attach_map_subtype_val D⟩
  have hds : d.size = D.length := by rw [← hd]; simp
  have hdj : ∀ (j : Nat) (hj : j < d.size), D[j]? = some d[j]!.1 := fun j hj => by
    subst hd
    simp [hj]
  obtain ⟨enc, henc⟩ : ∃ enc : { x : VA // GoodA w g x } → List Value, enc = fun x => encA3 x.1 := ⟨_, rfl⟩
  have hencl : ∀ x, (enc x).length = 3 := fun x => by rw [henc]; rfl
  have hH : Sort.HoldsK enc 3 w g off d := fun j hj => by
    rw [Sort.size_flatK] at hj
    refine ⟨?_, (q5 j (by have := Nat.mul_le_mul_right 3 q1; omega)).2⟩
    rw [Sort.get_flatK _ _ _ _ hj]
    have hx := hdj (j / 3) (by omega)
    have h1 := flatV_at (c := j % 3) (by omega) D (j / 3) _ hx
    rw [show j / 3 * 3 + j % 3 = j by omega] at h1
    have h2 : (encA3 d[j / 3]!.1)[j % 3]? = some ((enc d[j / 3]!)[j % 3]!) := by
      rw [henc]
      exact get_some _ _ (by simp [encA3]; omega)
    exact q4 j _ (h1.trans h2)
  have hcmp : CmpLays Tryz.prog 115 #[] enc 3 (cmpA fun x => codeL x.1.2) g off d.size w := fun m os dk _ x y => by
    have hw : ∀ k, k ≠ g ∧ k < w.heap.size → (sortWorldK enc 3 w g off m dk os).heap[k]? = w.heap[k]? := fun k hk => by
      unfold sortWorldK Sort.putRowK
      rw [Sort.heap_grow_old _ _ (by simp; exact hk.2)]
      have : g ≠ k := Ne.symm hk.1
      simp [Sort.putRow, Sort.mapBlock, Sort.ahead, Array.getElem?_modify, this]
    have hsz : w.heap.size ≤ (sortWorldK enc 3 w g off m dk os).heap.size := by
      unfold sortWorldK Sort.putRowK
      simp [Sort.grow, Sort.putRow, Sort.mapBlock, Sort.ahead]
    have hr : ∀ z : { x : VA // GoodA w g x }, AR (sortWorldK enc 3 w g off m dk os).heap.size (sortWorldK enc 3 w g off m dk os) z.1.1 z.1.2 := fun z i hi => ((z.2.1 i hi).to (C' := fun k => k < w.heap.size) (fun k hk => ⟨hk.2, hw k hk⟩)).rs (fun k hk => Nat.lt_of_lt_of_le hk hsz)
    have h := cmp_acts x.1.1 y.1.1 x.1.2 y.1.2 _ (hr x) (hr y) x.2.2.1 y.2.2.1 x.2.2.2.1 y.2.2.2.1 x.2.2.2.2 y.2.2.2.2
    rw [henc]
    rw [henc] at h
    exact h.mono fun e w' hp => ⟨hp.1, grow_of_below hp.2.1 hp.2.2⟩
  have hone : ∀ x, ∀ u ∈ enc x, u.oneCell' = true := fun x u hu => by
    rw [henc] at hu
    simp [encA3] at hu
    obtain ⟨a0, c0, h0, -⟩ := x.2.1 0 (by omega)
    obtain ⟨a1, c1, h1, -⟩ := x.2.1 1 (by omega)
    obtain ⟨a2, c2, h2, -⟩ := x.2.1 2 (by omega)
    rcases hu with rfl | rfl | rfl
    · rw [h0]; rfl
    · rw [h1]; rfl
    · rw [h2]; rfl
  have hc := AnyQ.slices_SortFunc (P := Tryz.prog) (ρ := sortA_ren) sortA 3 Tryz.isAgg27 Tryz.sizeOf27 enc hencl hone (cmpA fun x => codeL x.1.2) (swoA _) 115 #[] g off cap d w enters_cmp hcmp hH q6 (by omega)
  rw [hds] at hc
  refine hc.mono ?_
  rintro e w' ⟨rfl, d', n, os, ⟨hp1, _, hp3⟩, hs, rfl⟩
  rw [← hds] at hp3 hs
  have hds' : d'.size = D.length := by omega
  have hperm : d'.toList.Perm d.toList := by
    have e1 : d'.extract 0 d.size = d' := by rw [← hp1]; exact Array.extract_size
    have e2 : d.extract 0 d.size = d := Array.extract_size
    rw [e1, e2] at hp3
    exact hp3
  have hH' : Sort.HoldsK enc 3 (sortWorldK enc 3 w g off n d' os) g off d' := by
    unfold sortWorldK
    exact Sort.holdsK_grow _ _ _ _ _ _ _ (by simpa [Sort.putRowK] using q6) (Sort.holdsK_putRowK _ _ _ _ _ d d' (Sort.holdsK_ahead _ _ _ _ _ _ _ hH) (by omega))
  refine ⟨rfl, d'.toList.map (·.1), ?_, ?_, ?_, ?_⟩
  · rw [← hd]; exact hperm.map _
  · rw [List.pairwise_map, List.pairwise_iff_getElem]
    intro i j hi hj hij
    simp only [Array.length_toList] at hi hj
    have := hs i j (Nat.zero_le _) hij (by omega)
    rw [ltA, getElem!_pos d' i hi, getElem!_pos d' j hj] at this
    simpa using this
  · intro j u hj
    have hjl := (List.getElem?_eq_some_iff.1 hj).1
    rw [flatV_len, List.length_map, Array.length_toList] at hjl
    have hk : j / 3 < d'.size := by omega
    have hx : (d'.toList.map (·.1))[j / 3]? = some d'[j / 3]!.1 := by
      rw [List.getElem?_map, Array.getElem?_toList, getElem!_pos d' _ hk, Array.getElem?_eq_getElem hk]; rfl
    have h1 := flatV_at (c := j % 3) (by omega) _ _ _ hx
    rw [show j / 3 * 3 + j % 3 = j by omega, hj] at h1
    have h2 := (hH'.cell hk (show j % 3 < 3 by omega)).1
    rw [show off + j / 3 * 3 + j % 3 = off + j by omega] at h2
    rw [h2, h1, henc]
    exact (get_some _ _ (by simp [encA3]; omega)).symm
  · refine ⟨rfl, rfl, rfl, ?_, fun k hk => ?_⟩
    · unfold sortWorldK Sort.putRowK
      simp [Sort.grow, Sort.putRow, Sort.mapBlock, Sort.ahead]
    · have hk1 : k ≠ g := fun e => hk (.inl e)
      have hk2 : k < w.heap.size := by
        rcases Nat.lt_or_ge k w.heap.size with h | h
        · exact h
        · exact absurd (.inr h) hk
      unfold sortWorldK Sort.putRowK
      rw [Sort.heap_grow_old _ _ (by simp; exact hk2)]
      have : g ≠ k := Ne.symm hk1
      simp [Sort.putRow, Sort.mapBlock, Sort.ahead, Array.getElem?_modify, this]
end Go.Proofs.YtfdklmpkienfhaaGreat
