/- A walk over a map's entries, keys and values; the list that List gathers. -/
import Derived.Test.YtfdklmpkienfhaaGreatSrB
namespace Go.Proofs.YtfdklmpkienfhaaGreat
set_option linter.unusedSimpArgs false
set_option linter.unusedVariables false
open Go.RowKit
open Go.Op (bytesLess)

section
variable {α : Type}
theorem walkedG_next {es : Array MapEntry} {L : List α} (hlen : es.toList.length = L.length) {seen : Array Nat} {ds : List (MapEntry × α)} (h : Walked es.toList L seen ds) {e : MapEntry} (he : e ∈ (leftOf es seen).toList) :
    ∃ x, (e, x) ∈ es.toList.zip L ∧ Walked es.toList L (seen.push e.born) (ds ++ [(e, x)]) := by
  unfold leftOf at he
  simp at he
  obtain ⟨hem, hes⟩ := he
  have hz : e ∈ (es.toList.zip L).map (·.1) := by rw [zip_fst hlen]; simpa using hem
  obtain ⟨⟨e', a⟩, hz2, rfl⟩ := List.mem_map.1 hz
  clear hz
  have hnot : (e', a) ∉ ds := fun hd => by
    apply hes
    have : e'.born ∈ seen.toList := by rw [h.seen]; exact List.mem_map.2 ⟨_, hd, rfl⟩
    simpa using this
  refine ⟨a, hz2, fun z hzd => ?_, ?_, ?_⟩
  · rcases List.mem_append.1 hzd with hzd | hzd
    · exact h.sub z hzd
    · rw [List.mem_singleton.1 hzd]; exact hz2
  · rw [List.nodup_append]
    exact ⟨h.nodup, by simp, fun a ha b hb => by rw [List.mem_singleton.1 hb]; rintro rfl; exact hnot ha⟩
  · rw [Array.toList_push, h.seen, List.map_append]; rfl

theorem walkedG_end {es : Array MapEntry} {L : List α} (hlen : es.toList.length = L.length) {clock : Nat} (hs : Stamps es.toList clock) {seen : Array Nat} {ds : List (MapEntry × α)} (h : Walked es.toList L seen ds) (hk : L.Nodup)
    (he : (leftOf es seen).size = 0) : (ds.map (·.2)).Perm L := by
  have hzn : (es.toList.zip L).Nodup := nodup_of_map (·.2) (by rw [zip_snd hlen]; exact hk)
  have hp : ds.Perm (es.toList.zip L) := by
    rw [List.perm_ext_iff_of_nodup h.nodup hzn]
    refine fun z => ⟨h.sub z, fun hz => ?_⟩
    have hz1 : z.1 ∈ es.toList := by rw [← zip_fst hlen]; exact List.mem_map.2 ⟨z, hz, rfl⟩
    have hin : z.1.born ∈ seen.toList := by
      apply Decidable.byContradiction
      intro hn
      have : z.1 ∈ leftOf es seen := by
        unfold leftOf
        simp
        exact ⟨by simpa using hz1, by simpa using hn⟩
      have h0 : leftOf es seen = #[] := Array.eq_empty_of_size_eq_zero he
      rw [h0] at this
      simp at this
    rw [h.seen] at hin
    obtain ⟨y, hy, hyz⟩ := List.mem_map.1 hin
    have hb : ((es.toList.zip L).map (fun z => z.1.born)).Nodup := by
      have := hs.2
      rw [← zip_fst hlen, List.map_map] at this
      exact this
    have := inj_of_nodup (fun z : MapEntry × α => z.1.born) hb (h.sub y hy) hz hyz
    rw [← this]
    exact hy
  have := hp.map (·.2)
  rwa [zip_snd hlen] at this

theorem zip_kv {encK : List UInt8 → Value} {es : List MapEntry} {L : List α} {f : α → List UInt8 × Value} (h : Reads encK (fun v : Value => v) es (L.map f)) : ∀ z ∈ es.zip L, z.1.key = encK (f z.2).1 ∧ z.1.val = (f z.2).2 := by
  intro z hz
  obtain ⟨i, hi, rfl⟩ := List.mem_iff_getElem.1 hz
  have h1 := congrArg (fun l => l[i]?) h
  have hi2 : i < es.length ∧ i < L.length := by
    simp only [List.length_zip] at hi
    omega
  simp only [List.getElem?_map] at h1
  rw [List.getElem?_eq_getElem hi2.1, List.getElem?_eq_getElem hi2.2] at h1
  simp at h1
  simp [h1.1, h1.2]
end

/-- The entries as a list of actions. -/
def pairA (x : VA) : List UInt8 × Value := (codeL x.2, actV x.1)
theorem entries_list {o : Hy.Ord} {n : Nat} {C : Nat → Prop} {W : World} : ∀ {kv : List (List UInt8 × Value)}, (∀ p ∈ kv, EntryOk o n C W p) →
    ∃ L : List VA, kv = L.map pairA ∧ ∀ x ∈ L, (∃ A0, A0 ∈ actsL o n ∧ Shaped A0 ∧ (A0 0).length = n ∧ x.2 = leastA A0 n) ∧ ∀ i, i < 3 → RSC C W (x.1 i) (x.2 i)
  | [], _ => ⟨[], rfl, fun x hx => by cases hx⟩
  | p :: kv, h => by
    obtain ⟨L, h1, h2⟩ := entries_list (fun q hq => h q (List.mem_cons_of_mem _ hq))
    obtain ⟨V, A, e1, e2, e3, e4⟩ := h p List.mem_cons_self
    refine ⟨(V, A) :: L, by rw [List.map_cons, ← h1]; congr 1; exact Prod.ext e3.symm e1, fun x hx => ?_⟩
    rcases List.mem_cons.1 hx with rfl | hx
    · exact ⟨e2, e4⟩
    · exact h2 x hx

theorem lstK_nodup (o : Hy.Ord) (n : Nat) : ∀ i, (lstK o n i).Nodup := by
  intro i
  unfold lstK
  generalize (actsL o n).take i = xs
  have : ∀ (xs : List (Nat → List Int)) (ks : List (List UInt8)), ks.Nodup → (xs.foldl (fun ks A => if codeL (leastA A n) ∈ ks then ks else ks ++ [codeL (leastA A n)]) ks).Nodup := by
    intro xs
    induction xs with
    | nil => exact fun ks h => h
    | cons A xs ih =>
      intro ks h
      rw [List.foldl_cons]
      refine ih _ ?_
      split
      · exact h
      · rename_i hn
        rw [List.nodup_append]
        exact ⟨h, by simp, fun a ha b hb => by rw [List.mem_singleton.1 hb]; rintro rfl; exact hn ha⟩
  exact this xs [] List.nodup_nil
theorem lstK_mem (o : Hy.Ord) (n : Nat) {A : Nat → List Int} (h : A ∈ actsL o n) : codeL (leastA A n) ∈ lstK o n (actsL o n).length := by
  unfold lstK
  rw [List.take_length]
  have : ∀ (xs : List (Nat → List Int)) (ks : List (List UInt8)), (∀ k ∈ ks, k ∈ xs.foldl (fun ks A => if codeL (leastA A n) ∈ ks then ks else ks ++ [codeL (leastA A n)]) ks) ∧ ∀ A ∈ xs, codeL (leastA A n) ∈ xs.foldl (fun ks A => if codeL (leastA A n) ∈ ks then ks else ks ++ [codeL (leastA A n)]) ks := by
    intro xs
    induction xs with
    | nil => exact fun ks => ⟨fun k hk => hk, fun A hA => by cases hA⟩
    | cons B xs ih =>
      intro ks
      rw [List.foldl_cons]
      have hsub : ∀ k, (k ∈ ks ∨ k = codeL (leastA B n)) → k ∈ (if codeL (leastA B n) ∈ ks then ks else ks ++ [codeL (leastA B n)]) := by
        intro k hk
        split
        · rename_i hin
          rcases hk with hk | rfl
          · exact hk
          · exact hin
        · rcases hk with hk | rfl
          · exact List.mem_append_left _ hk
          · simp
      refine ⟨fun k hk => (ih _).1 k (hsub k (.inl hk)), fun A hA => ?_⟩
      rcases List.mem_cons.1 hA with rfl | hA
      · exact (ih _).1 _ (hsub _ (.inr rfl))
      · exact (ih _).2 A hA
  exact (this (actsL o n) []).2 A h

/-- A type of slices with large elements. -/
def RowBig (P : Program) (t e : TypeId) (size : Nat) : Prop :=
  ∃ (i : TypeInfo) (z : Value) (bytes : Nat), P.underlying t = some (.slice e) ∧ P.info? e = some i ∧ i.zero = some z ∧ i.size = size ∧ i.bytes = bytes ∧ z.cells.size = size ∧ 0 < size ∧ bytes ≤ 1000
section
variable {P : Program}
theorem gr_runB (w : World) {t e : TypeId} {size : Nat} (R : RowBig P t e size) {v : Value} {n : Nat} {xs : List Value} (hq : GR w size v n xs) (ty ty2 : TypeId) (news : List Value) (hl : news.length = size) (h1 : ∀ u ∈ news, u.oneCell' = true) (hn : n ≤ 900000000) :
    ∃ v' w', (Builtin.append_ #[t, t] ty #[v, .slice (some ⟨w.heap.size, 0, none⟩) 1 1]).run P (w.alloc (.cells news.toArray ty2)) = .ok v' w' ∧ GR w' size v' (n + 1) (xs ++ news) ∧
      Only (fun k => v.ownBlock = some k ∨ w.heap.size ≤ k) w w' ∧ (∀ b, v'.ownBlock = some b → v.ownBlock = some b ∨ w.heap.size ≤ b) := by
  obtain ⟨i, z, bytes, r1, r2, r3, r4, r5, r6, r7, r8⟩ := R
  have hb : (n + 1) * bytes ≤ 140737488355328 := by
    have := Nat.mul_le_mul (show n + 1 ≤ 1000000001 by omega) r8
    omega
  rcases hq with ⟨rfl, rfl, rfl⟩ | ⟨g, hq⟩
  · have hown : (w.alloc (.cells news.toArray ty2)).ownsRow w.heap.size e size (.slice none 0 0) 0 [] := World.ownsRow_nil _ _ _ _
    obtain ⟨v', w', q1, q2, q3, _⟩ := run_append_own (P := P) (w.alloc (.cells news.toArray ty2)) w.heap.size t ty e i z size bytes r1 r2 r3 r4 r5 r6 r7 (.slice none 0 0) 0 [] hown ⟨w.heap.size, 0, none⟩ 1 1 news (by rw [hl, Nat.one_mul]) new_cells h1 (by unfold maxLen; omega) hb (by simp)
    obtain ⟨g, hg, hq⟩ := QRow.ofOwns q2 (by omega)
    have hbl := ((Below.refl w.heap.size w).alloc (Nat.le_refl _) (.cells news.toArray ty2)).trans (below_of_grown hown q3 (by simp))
    refine ⟨v', w', q1, .inr ⟨g, hq⟩, ⟨hbl.os, hbl.tape, hbl.output, hbl.size, fun k hk => hbl.block k (by
      rcases Nat.lt_or_ge k w.heap.size with h | h
      · exact h
      · exact absurd (.inr h) hk)⟩, fun b hb => ?_⟩
    obtain ⟨off, cap, rfl, _⟩ := hq
    simp [Value.ownBlock] at hb
    omega
  · have hq1 : QRow (w.alloc (.cells news.toArray ty2)) g size v n xs := hq.of_heap (Below.heap_alloc _ _ _ hq.bd) (by simp)
    obtain ⟨v', w', g', q1, q2, q3, q4⟩ := hq1.append (P := P) t ty e i z bytes r1 r2 r3 r4 r5 r6 r7 ⟨w.heap.size, 0, none⟩ 1 1 news (by rw [hl, Nat.one_mul]) (by omega) new_cells h1 (by unfold maxLen; omega) hb
    have hv : v.ownBlock = some g := by obtain ⟨off, cap, rfl, _⟩ := hq; rfl
    refine ⟨v', w', q1, .inr ⟨g', q2⟩, ((Only.refl _ w).alloc (fun k hk => .inr hk) _).trans (q3.mono (fun k hk => ?_)), fun b hb => ?_⟩
    · rcases hk with rfl | hk
      · exact .inl hv
      · simp at hk; exact .inr (by omega)
    · obtain ⟨off, cap, rfl, _⟩ := q2
      simp [Value.ownBlock] at hb
      subst hb
      rcases q4 with rfl | q4
      · exact .inl hv
      · simp at q4; exact .inr (by omega)

/-- One element more. -/
theorem wpList_grB (w : World) {ops : Array Oper} {rest : List Oper} {o : Oper} {a : Act} {Q : Exit → Act → World → Prop} {t e : TypeId} {size : Nat} (R : RowBig P t e size) (hgd : o.guard = none) (s x : Operand)
    (ho : o.op = .call { callee := .builtin .append, args := #[s, x], argTypes := #[t, t] }) {v : Value} {n : Nat} {xs : List Value} (hs : a.eval s = v) (hq : GR w size v n xs) (ty : TypeId) (news : List Value)
    (hx : a.eval x = .slice (some ⟨w.heap.size, 0, none⟩) 1 1) (hl : news.length = size) (h1 : ∀ u ∈ news, u.oneCell' = true) (hn : n ≤ 900000000)
    (hK : ∀ v' w', GR w' size v' (n + 1) (xs ++ news) → Only (fun k => v.ownBlock = some k ∨ w.heap.size ≤ k) w w' → (∀ b, v'.ownBlock = some b → v.ownBlock = some b ∨ w.heap.size ≤ b) → wpList P ops Q rest (a.put o.dst v') w') : wpList P ops Q (o :: rest) a (w.alloc (.cells news.toArray ty)) := by
  refine wpList_plain hgd fun _ hK2 => ?_
  obtain ⟨v', w', hr, h2, h3, h4⟩ := gr_runB (P := P) w R hq o.type ty news hl h1 hn
  unfold Oper.wp execOp
  simp only [ho, resolve, invoke, builtin, Sem.run_bind, Sem.run_pure, Result.andThen_ok, List.map_toArray, List.map_cons, List.map_nil, hs, hx, hr]
  exact hK2 _ _ (hK v' w' h2 h3 h4)
end
theorem rowAct : RowBig Tryz.prog 93 27 3 := by
  obtain ⟨i, a, b, c, d⟩ := info_parts (P := Tryz.prog) (e := 27) (z := .agg #[.slice none 0 0, .slice none 0 0, .slice none 0 0]) (size := 3) (bytes := 72) (by kernel_rfl)
  exact ⟨i, _, 72, Tryz.underlying93, a, b, c, d, rfl, by decide, by decide⟩

theorem RSC.bd {C : Nat → Prop} {w : World} {v : Value} {l : List Int} (h : RSC C w v l) : RSC (fun g => C g ∧ g < w.heap.size) w v l := by
  obtain ⟨a, cap, h1, h2, h3⟩ := h
  refine ⟨a, cap, h1, h2, fun k hk => ?_⟩
  obtain ⟨g, off, h4, h5, h6⟩ := h3 k hk
  refine ⟨g, off, h4, ⟨h5, ?_⟩, h6⟩
  rcases Nat.lt_or_ge g w.heap.size with h | h
  · exact h
  · simp [World.cell?, Array.getElem?_eq_none h] at h6

theorem flatMap_len_le {α β : Type} {f : α → List β} {b : Nat} : ∀ {xs : List α}, (∀ x ∈ xs, (f x).length ≤ b) → (xs.flatMap f).length ≤ xs.length * b
  | [], _ => by simp
  | x :: xs, h => by
    have h1 := h x List.mem_cons_self
    have h2 := flatMap_len_le (f := f) (fun y hy => h y (List.mem_cons_of_mem _ hy))
    rw [List.flatMap_cons, List.length_append, List.length_cons, Nat.add_mul, Nat.one_mul]
    omega
theorem backs_few {n : Nat} (hn : 1 ≤ n ∧ n ≤ 5) : (Cov.backsL n).length ≤ 26 := by
  obtain rfl | rfl | rfl | rfl | rfl : n = 1 ∨ n = 2 ∨ n = 3 ∨ n = 4 ∨ n = 5 := by omega
  all_goals decide +kernel
theorem acts_few (o : Hy.Ord) {n : Nat} (hn : 1 ≤ n ∧ n ≤ 5) : (actsL o n).length ≤ 17576 := by
  have hb := backs_few hn
  have h1 : ∀ a b c, (actC o a b c).length ≤ 1 := fun a b c => by unfold actC; split <;> simp
  have h2 : ∀ a b, (actB o n a b).length ≤ 26 := fun a b => by
    have := flatMap_len_le (f := actC o a b) (b := 1) (xs := Cov.backsL n) (fun x _ => h1 a b x)
    unfold actB; omega
  have h3 : ∀ a, (actA o n a).length ≤ 676 := fun a => by
    have := flatMap_len_le (f := actB o n a) (b := 26) (xs := Cov.backsL n) (fun x _ => h2 a x)
    have := Nat.mul_le_mul_right 26 hb
    unfold actA; omega
  have := flatMap_len_le (f := actA o n) (b := 676) (xs := Cov.backsL n) (fun x _ => h3 x)
  have := Nat.mul_le_mul_right 676 hb
  unfold actsL; omega
theorem lstK_few (o : Hy.Ord) (n : Nat) : ∀ i, (lstK o n i).length ≤ i
  | 0 => by simp [lstK]
  | i + 1 => by
    have h := lstK_few o n i
    cases ha : (actsL o n)[i]? with
    | none =>
      have : lstK o n (i + 1) = lstK o n i := by
        unfold lstK
        have hl := List.getElem?_eq_none_iff.1 ha
        rw [List.take_of_length_le (by omega), List.take_of_length_le hl]
      rw [this]; omega
    | some A =>
      rw [lstK_succ ha]
      split
      · omega
      · rw [List.length_append]; simp; omega

theorem setBlock_put (w : World) (b : Nat) (o : Obj) : ChangeMaps.setBlock w b o = w.putObj b o := rfl

/-- A row of actions in memory. -/
def ActRow (w : World) (v : Value) (L : List VA) : Prop :=
  ∃ (a : Option Addr) (cap : Nat), v = .slice a L.length cap ∧ (∀ j u, (flatV L)[j]? = some u → ∃ g off, a = some ⟨g, off, none⟩ ∧ g < w.heap.size ∧ w.cell? ⟨g, off + j, none⟩ = some u) ∧ ∀ x ∈ L, AR w.heap.size w x.1 x.2
/-- What List lists. -/
def ListOk (o : Hy.Ord) (n : Nat) (L : List VA) : Prop :=
  (∀ x ∈ L, ∃ A0, A0 ∈ actsL o n ∧ Shaped A0 ∧ (A0 0).length = n ∧ x.2 = leastA A0 n) ∧ L.Pairwise (fun x y => bytesLess (codeL x.2) (codeL y.2) = true) ∧ ∀ A0 ∈ actsL o n, ∃ x ∈ L, codeL x.2 = codeL (leastA A0 n)

/-- The sort of a row that may be empty. -/
theorem sort_any {w : World} {a3 : Option Addr} {nn c3 N : Nat} {D : List VA} (hgr : GR w 3 (.slice a3 nn c3) nn (flatV D)) (hn : D.length = nn) (ho : ∀ b, (Value.slice a3 nn c3).ownBlock = some b → N < b) (hN : N < w.heap.size)
    (hA : ∀ x ∈ D, (∀ i, i < 3 → RSC (fun k => k ≤ N) w (x.1 i) (x.2 i)) ∧ 0 < (x.2 0).length ∧ (∀ i, i < 3 → (x.2 i).length ≤ 1000) ∧ ∀ i, i < 3 → ∀ y ∈ x.2 i, 0 ≤ y ∧ y < 256) (hl : nn ≤ 100000) :
    Calls Tryz.prog 114 #[.slice a3 nn c3, .func (.func 115) #[] #[]] w fun e w' => e = .returned (.tuple #[]) ∧
      ∃ L : List VA, L.Perm D ∧ L.Pairwise (fun x y => bytesLess (codeL y.2) (codeL x.2) = false) ∧ (∀ j u, (flatV L)[j]? = some u → ∃ g off, a3 = some ⟨g, off, none⟩ ∧ g < w'.heap.size ∧ w'.cell? ⟨g, off + j, none⟩ = some u) ∧ Only (fun k => N < k) w w' := by
  cases D with
  | nil =>
    simp only [List.length_nil] at hn
    subst hn
    refine (AnyF.slices_SortFunc_none (P := Tryz.prog) (ρ := sortA_ren) sortA a3 c3 _ w).mono ?_
    rintro e w' ⟨rfl, rfl⟩
    exact ⟨rfl, [], List.Perm.refl _, List.Pairwise.nil, fun j u hj => by simp [flatV] at hj, Only.refl _ _⟩
  | cons x D' =>
    rcases hgr with ⟨h1, h2, h3⟩ | ⟨g, hq⟩
    · simp [h2] at hn
    · obtain ⟨off, cap, he, _⟩ := id hq
      simp only [Value.slice.injEq, true_and] at he
      obtain ⟨rfl, rfl⟩ := he
      have hg : N < g := ho g rfl
      rw [← hn] at hq ⊢
      refine (sort_acts hq (fun y hy => ⟨fun i hi => ((hA y hy).1 i hi).to (fun k hk => ⟨⟨by omega, by omega⟩, rfl⟩), (hA y hy).2⟩) (by simp) (by omega)).mono ?_
      rintro e w' ⟨rfl, L, h1, h2, h3, h4⟩
      refine ⟨rfl, L, h1, h2, fun j u hj => ⟨g, off, rfl, ?_, h3 j u hj⟩, h4.mono (fun k hk => by omega)⟩
      exact Nat.lt_of_lt_of_le hq.bd h4.size

/-- While the entries are gathered. -/
structure GathI (L : List VA) (es : Array MapEntry) (mb ob it clock : Nat) (W9 : World) (wr : World) : Prop where
  wk : ∃ (ds : List (MapEntry × VA)) (seen : Array Nat) (c0 : Nat), wr.heap[it]? = some (.mapIter (some mb) clock seen c0) ∧ clock ≤ c0 ∧ Walked es.toList L seen ds ∧ ds.length + (leftOf es seen).size ≤ L.length ∧
    ∃ v, wr.heap[ob]? = some (.cells #[v] 93) ∧ GR wr 3 v ds.length (flatV (ds.map (·.2))) ∧ ∀ b, v.ownBlock = some b → it < b
  on : Only (fun k => k = ob ∨ it ≤ k) W9 wr
end Go.Proofs.YtfdklmpkienfhaaGreat
