/- The step of the specification of layer 3: the recursion over its graph. -/
import Derived.Test.YtfdklmpkienfhaaGreatRw
import Derived.Test.YtfdklmpkienfhaaGreatNf
import Derived.Deep.RegionLaw
import Derived.Deep.AppendLies
namespace Go.Proofs.YtfdklmpkienfhaaGreat
set_option linter.unusedSimpArgs false
set_option linter.unusedVariables false
open Go.RowKit

section
variable {P : Program}
theorem step_append_queue {w : World} {ops : Array Oper} {o : Oper} {a : Act} {K : Act → World → Prop} {Q : Exit → Act → World → Prop} {E : Prop} (hgd : o.guard = none) (s x : Operand) (t : TypeId)
    (ho : o.op = .call { callee := .builtin .append, args := #[s, x], argTypes := #[t, t] })
    {g size : Nat} {v : Value} {n : Nat} {xs : List Value} (hs : a.eval s = v) (hq : QRow w g size v n xs)
    (e : TypeId) (i : TypeInfo) (z : Value) (bytes : Nat) (ht : P.underlying t = some (.slice e)) (hi : P.info? e = some i) (hz : i.zero = some z)
    (hsize : i.size = size) (hby : i.bytes = bytes) (hzs : z.cells.size = size) (hsz : 0 < size)
    (ad : Addr) (m c : Nat) (news : List Value) (hx : a.eval x = .slice (some ad) m c) (hl : news.length = m * size) (hm : 0 < m) (hnews : ∀ j u, news[j]? = some u → w.cell? (ad.add j) = some u) (h1 : ∀ u ∈ news, u.oneCell' = true)
    (h63 : n + m ≤ maxLen) (hbytes : (n + m) * bytes ≤ 140737488355328)
    (h : ∀ v' w' g', QRow w' g' size v' (n + m) (xs ++ news) → Only (fun k => k = g ∨ w.heap.size ≤ k) w w' → (g' = g ∨ w.heap.size ≤ g') → K (a.put o.dst v') w') :
    if Region.wanted o (yielded ops a.tmps) = true then Oper.wp P o a w K Q else E := by
  have hw : Region.wanted o (yielded ops a.tmps) = true := by simp [Region.wanted, hgd]
  rw [if_pos hw]
  obtain ⟨v', w', g', hr, h2, h3, h4⟩ := hq.append (P := P) t o.type e i z bytes ht hi hz hsize hby hzs hsz ad m c news hl hm hnews h1 h63 hbytes
  unfold Oper.wp execOp
  simp only [ho, resolve, invoke, builtin, Sem.run_bind, Sem.run_pure, Result.andThen_ok, List.map_toArray, List.map_cons, List.map_nil, hs, hx, hr]
  exact h v' w' g' h2 h3 h4
end

theorem infoNode : (Tryz.prog.info? 194).map (fun i => (i.zero, i.size, i.bytes)) = some (some (.agg #[.int .i64 0, .int .i64 0, .int .i64 0, .int .i64 0, .bool false, .bool false, .bool false, .string ⟨#[]⟩]), 8, 56) := by kernel_rfl

theorem one_r03cells (n : Hy.Node) : ∀ u ∈ r03cells n, u.oneCell' = true := by
  have hix : ∀ y, (ix y).oneCell' = true := fun y => by cases y <;> rfl
  intro u hu
  simp only [r03cells, List.mem_cons, List.not_mem_nil, or_false] at hu
  rcases hu with rfl | rfl | rfl | rfl | rfl | rfl | rfl | rfl
  all_goals first | exact hix _ | rfl

theorem QRow.form {W : World} {g size : Nat} {v : Value} {n : Nat} {xs : List Value} (h : QRow W g size v n xs) : ∃ off cap, v = .slice (some ⟨g, off, none⟩) n cap := by
  obtain ⟨off, cap, h1, _⟩ := h
  exact ⟨off, cap, h1⟩

/-- Graphs only grow. -/
def Longer (f : List Hy.Node → Nat → Nat → Option (List Hy.Node × Nat)) : Prop := ∀ G x s G' y, f G x s = some (G', y) → G.length ≤ G'.length

theorem climb_len {f : List Hy.Node → Nat → Nat → Option (List Hy.Node × Nat)} (hf : Longer f) : ∀ {k : Nat} {G : List Hy.Node} {z l l' : Nat} {G' : List Hy.Node} {z' : Nat}, Hy.climb f k G z l l' = some (G', z') → G.length ≤ G'.length
  | 0, _, _, _, _, _, _, h => by cases h; exact Nat.le_refl _
  | k + 1, _, _, _, _, _, _, h => by
    obtain ⟨G1, z1, h1, h2⟩ := Hy.climb_succ h
    exact Nat.le_trans (hf _ _ _ _ _ h1) (climb_len hf h2)

theorem cornerL_len {lim : Nat} {o : Hy.Ord} {f : List Hy.Node → Nat → Nat → Option (List Hy.Node × Nat)} (hf : Longer f) {x s y t : Nat} {G G1 : List Hy.Node} (hc : Hy.cornerL lim o f x s y G t = some G1) : G.length ≤ G1.length := by
  rcases Hy.cornerL_cases hc with ⟨h1, h2⟩ | ⟨h1, h2, h3⟩ | ⟨m, h1, h2, h3, h4⟩ | ⟨m, v, G', z, nz, ny, h1, h2, h3, h4, h5, h6, h7, h8, h9, h10⟩
  · rw [h2]; exact Nat.le_refl _
  · rw [h3]; exact Nat.le_refl _
  · rw [h4]; exact Nat.le_refl _
  · have := climb_len hf h4
    rw [h10]
    by_cases hl : Hy.less (nz.word ++ Hy.letter t) ny.word = true
    · rw [if_pos hl, List.length_modify, Hy.length_link]; exact this
    · rw [if_neg hl, Hy.length_link]; exact this

theorem cornersL_len {lim : Nat} {o : Hy.Ord} {f : List Hy.Node → Nat → Nat → Option (List Hy.Node × Nat)} (hf : Longer f) {x s y : Nat} : ∀ {r : Nat} {G Gc : List Hy.Node}, Hy.cornersL lim o f x s y r G = some Gc → G.length ≤ Gc.length
  | 0, _, _, h => by cases h; exact Nat.le_refl _
  | r + 1, _, _, h => by
    obtain ⟨G1, h1, h2⟩ := Hy.cornersL_succ h
    exact Nat.le_trans (cornerL_len hf h1) (cornersL_len hf h2)

theorem sprout_length (G : List Hy.Node) (n : Hy.Node) (x s : Nat) : (Hy.sprout G n x s).length = G.length + 1 := by simp [Hy.sprout, Hy.length_link]

theorem sprout_eq {G : List Hy.Node} {n : Hy.Node} {x s : Nat} (hx : G[x]? = some n) :
    (G ++ [Hy.setDown s (Hy.setTo s x (Hy.fresh (n.word ++ Hy.letter s)))]).set x (Hy.setTo s G.length n) = Hy.sprout G n x s := by
  have hxl : x < G.length := (List.getElem?_eq_some_iff.1 hx).1
  unfold Hy.sprout Hy.link
  apply List.ext_getElem?
  intro i
  simp only [List.getElem?_modify, List.getElem?_set, List.length_append, List.length_singleton]
  by_cases h1 : x = i
  · subst h1
    have hne : ¬ (G.length = x) := by omega
    have hxe := (List.getElem?_eq_some_iff.1 hx).2
    simp [hne, List.getElem?_append_left hxl, hx, show x < G.length + 1 by omega, List.getElem_append_left hxl, hxe]
  · by_cases h2 : G.length = i
    · subst h2
      simp [h1]
    · by_cases h3 : i < G.length
      · simp [h1, h2, List.getElem?_append_left h3]
      · rw [List.getElem?_eq_none (l := G ++ [Hy.fresh (n.word ++ Hy.letter s)]) (by simp; omega), if_neg h1, List.getElem?_eq_none (by simp; omega)]; rfl

theorem link_set_eq {G : List Hy.Node} {z y t : Nat} {nz ny : Hy.Node} (hz : G[z]? = some nz) (hy : G[y]? = some ny) (hzy : z ≠ y) :
    ((G.set z (Hy.setTo t y nz)).set y (Hy.setTo t z ny)).set y (Hy.setDown t (Hy.setTo t z ny)) = Hy.link G z y t := by
  have hzl : z < G.length := (List.getElem?_eq_some_iff.1 hz).1
  have hyl : y < G.length := (List.getElem?_eq_some_iff.1 hy).1
  unfold Hy.link
  apply List.ext_getElem?
  intro i
  simp only [List.getElem?_modify, List.getElem?_set, List.length_set]
  by_cases h1 : y = i
  · subst h1
    have hye := (List.getElem?_eq_some_iff.1 hy).2
    simp [hzy, hy, hyl, hye]
  · by_cases h2 : z = i
    · subst h2
      have hze := (List.getElem?_eq_some_iff.1 hz).2
      simp [h1, hz, hzl, hze]
    · simp [h1, h2]

/-- A cell of a node is written: what the walk asks, and what it leaves. -/
theorem RG.write {w : World} {o : Hy.Ord} {B : Nat → Prop} {gb rb off N cap : Nat} {G : List Hy.Node} (h : RG w o B gb rb (.slice (some ⟨rb, off, none⟩) N cap) G) (hN : N = G.length) {i : Nat} {n n' : Hy.Node} (hi : G[i]? = some n) {j : Nat} (hj : j < 8) (u : Value)
    (hn : r03cells n' = (r03cells n).set j u) (hc : ∀ s k, n'.to s = some k → k < G.length) :
    w.cell? ⟨gb, 3, none⟩ = some (.slice (some ⟨rb, off, none⟩) N cap) ∧ (∃ u0, w.cell? ⟨rb, off + i * 8 + j, none⟩ = some u0 ∧ (r03cells n)[j]? = some u0) ∧ w.frozen? ⟨rb, off + i * 8 + j, none⟩ = false ∧
      RG (w.setCell ⟨rb, off + i * 8 + j, none⟩ u) o B gb rb (.slice (some ⟨rb, off, none⟩) N cap) (G.set i n') ∧ Only B w (w.setCell ⟨rb, off + i * 8 + j, none⟩ u) := by
  subst hN
  have hil : i < G.length := (List.getElem?_eq_some_iff.1 hi).1
  obtain ⟨off', cap', hv, hg, hnode, _⟩ := h.opened
  have hh : off = off' ∧ cap = cap' := by simpa using hv
  obtain ⟨rfl, rfl⟩ := hh
  refine ⟨hg, ?_, (hnode i n hi).nfree j hj, h.put hi hj hn hc, (Only.refl B w).setCell (p := ⟨rb, off + i * 8 + j, none⟩) h.lo.2 u⟩
  have hl : j < (r03cells n).length := hj
  have h0 := flat_get hi hj
  rw [List.getElem?_eq_getElem hl] at h0 ⊢
  obtain ⟨off'', cap'', hv'', _, _, _, h5, _⟩ := h.row
  have hh : off = off'' ∧ cap = cap'' := by simpa using hv''
  obtain ⟨rfl, rfl⟩ := hh
  refine ⟨_, ?_, rfl⟩
  rw [Nat.add_assoc]
  exact h5 _ _ h0

theorem modify_eq_set {G : List Hy.Node} {i : Nat} {n : Hy.Node} {f : Hy.Node → Hy.Node} (h : G[i]? = some n) : G.modify i f = G.set i (f n) := by
  have hi : i < G.length := (List.getElem?_eq_some_iff.1 h).1
  apply List.ext_getElem?
  intro j
  rw [List.getElem?_modify, List.getElem?_set]
  by_cases hj : i = j
  · subst hj
    rw [if_pos rfl, if_pos hi, h]
    simp
  · rw [if_neg hj]; simp [hj]

/-- Eight stores into a block of eight cells. -/
theorem store8 {w : World} {b : Nat} {z0 z1 z2 z3 z4 z5 z6 z7 : Value} {t : TypeId} (h : w.heap[b]? = some (.cells #[z0, z1, z2, z3, z4, z5, z6, z7] t (0, 0))) (u0 u1 u2 u3 u4 u5 u6 u7 : Value) :
    ((((((((w.setCell ⟨b, 0, none⟩ u0).setCell ⟨b, 1, none⟩ u1).setCell ⟨b, 2, none⟩ u2).setCell ⟨b, 3, none⟩ u3).setCell ⟨b, 4, none⟩ u4).setCell ⟨b, 5, none⟩ u5).setCell ⟨b, 6, none⟩ u6).setCell ⟨b, 7, none⟩ u7).heap[b]? = some (.cells #[u0, u1, u2, u3, u4, u5, u6, u7] t (0, 0)) := by
  have h0 : (w.setCell ⟨b, 0, none⟩ u0).heap[b]? = some (.cells #[u0, z1, z2, z3, z4, z5, z6, z7] t (0, 0)) := heap_setCell_same _ _ _ _ _ _ h
  have h1 : ((w.setCell ⟨b, 0, none⟩ u0).setCell ⟨b, 1, none⟩ u1).heap[b]? = some (.cells #[u0, u1, z2, z3, z4, z5, z6, z7] t (0, 0)) := heap_setCell_same _ _ _ _ _ _ h0
  have h2 : (((w.setCell ⟨b, 0, none⟩ u0).setCell ⟨b, 1, none⟩ u1).setCell ⟨b, 2, none⟩ u2).heap[b]? = some (.cells #[u0, u1, u2, z3, z4, z5, z6, z7] t (0, 0)) := heap_setCell_same _ _ _ _ _ _ h1
  have h3 : ((((w.setCell ⟨b, 0, none⟩ u0).setCell ⟨b, 1, none⟩ u1).setCell ⟨b, 2, none⟩ u2).setCell ⟨b, 3, none⟩ u3).heap[b]? = some (.cells #[u0, u1, u2, u3, z4, z5, z6, z7] t (0, 0)) := heap_setCell_same _ _ _ _ _ _ h2
  have h4 : (((((w.setCell ⟨b, 0, none⟩ u0).setCell ⟨b, 1, none⟩ u1).setCell ⟨b, 2, none⟩ u2).setCell ⟨b, 3, none⟩ u3).setCell ⟨b, 4, none⟩ u4).heap[b]? = some (.cells #[u0, u1, u2, u3, u4, z5, z6, z7] t (0, 0)) := heap_setCell_same _ _ _ _ _ _ h3
  have h5 : ((((((w.setCell ⟨b, 0, none⟩ u0).setCell ⟨b, 1, none⟩ u1).setCell ⟨b, 2, none⟩ u2).setCell ⟨b, 3, none⟩ u3).setCell ⟨b, 4, none⟩ u4).setCell ⟨b, 5, none⟩ u5).heap[b]? = some (.cells #[u0, u1, u2, u3, u4, u5, z6, z7] t (0, 0)) := heap_setCell_same _ _ _ _ _ _ h4
  have h6 : (((((((w.setCell ⟨b, 0, none⟩ u0).setCell ⟨b, 1, none⟩ u1).setCell ⟨b, 2, none⟩ u2).setCell ⟨b, 3, none⟩ u3).setCell ⟨b, 4, none⟩ u4).setCell ⟨b, 5, none⟩ u5).setCell ⟨b, 6, none⟩ u6).heap[b]? = some (.cells #[u0, u1, u2, u3, u4, u5, u6, z7] t (0, 0)) := heap_setCell_same _ _ _ _ _ _ h5
  have h7 : ((((((((w.setCell ⟨b, 0, none⟩ u0).setCell ⟨b, 1, none⟩ u1).setCell ⟨b, 2, none⟩ u2).setCell ⟨b, 3, none⟩ u3).setCell ⟨b, 4, none⟩ u4).setCell ⟨b, 5, none⟩ u5).setCell ⟨b, 6, none⟩ u6).setCell ⟨b, 7, none⟩ u7).heap[b]? = some (.cells #[u0, u1, u2, u3, u4, u5, u6, u7] t (0, 0)) := heap_setCell_same _ _ _ _ _ _ h6
  exact h7

theorem below8 {N : Nat} {w w' : World} {b : Nat} (h : Below N w w') (hb : N ≤ b) (u0 u1 u2 u3 u4 u5 u6 u7 : Value) :
    Below N w ((((((((w'.setCell ⟨b, 0, none⟩ u0).setCell ⟨b, 1, none⟩ u1).setCell ⟨b, 2, none⟩ u2).setCell ⟨b, 3, none⟩ u3).setCell ⟨b, 4, none⟩ u4).setCell ⟨b, 5, none⟩ u5).setCell ⟨b, 6, none⟩ u6).setCell ⟨b, 7, none⟩ u7) :=
  (((((((h.setCell (p := ⟨b, 0, none⟩) hb u0).setCell (p := ⟨b, 1, none⟩) hb u1).setCell (p := ⟨b, 2, none⟩) hb u2).setCell (p := ⟨b, 3, none⟩) hb u3).setCell (p := ⟨b, 4, none⟩) hb u4).setCell (p := ⟨b, 5, none⟩) hb u5).setCell (p := ⟨b, 6, none⟩) hb u6).setCell (p := ⟨b, 7, none⟩) hb u7

/-- The graph behind the append. -/
theorem rep_append {w W1 w9 : World} {o : Hy.Ord} {B : Nat → Prop} {gb rb off cap : Nat} {G : List Hy.Node} (H : RG w o B gb rb (.slice (some ⟨rb, off, none⟩) G.length cap) G) (HB : Free B w) (HB2 : Below w.heap.size w W1) {x s : Nat} (hxl : x < G.length) {l : List UInt8} {n' : Hy.Node}
    (HN' : n' = Hy.setDown s (Hy.setTo s x (Hy.fresh l))) {g9 off9 cap9 : Nat} (HH9 : w9.heap[gb]? = some (.cells #[.int .i64 o.m01, .int .i64 o.m12, .int .i64 o.m02, .slice (some ⟨rb, off, none⟩) G.length cap] 197 (0, 0)))
    (HQ9 : QRow w9 g9 8 (.slice (some ⟨g9, off9, none⟩) (G.length + 1) cap9) (G.length + 1) (flat G ++ r03cells n')) {N : Nat} (hN : W1.heap.size ≤ N) (HO9 : Only (fun k => k = rb ∨ N ≤ k) (W1.alloc (.cells (r03cells n').toArray 194)).drew w9) (HG9 : g9 = rb ∨ N ≤ g9) :
    RG (w9.setCell ⟨gb, 3, none⟩ (.slice (some ⟨g9, off9, none⟩) (G.length + 1) cap9)) o B gb g9 (.slice (some ⟨g9, off9, none⟩) (G.length + 1) cap9) (G ++ [n']) ∧ Only B w (w9.setCell ⟨gb, 3, none⟩ (.slice (some ⟨g9, off9, none⟩) (G.length + 1) cap9)) := by
  have hgl : gb < w.heap.size := (Array.getElem?_eq_some_iff.1 H.graph).1
  have hgs1 := HB2.size
  have hgr : gb ≠ g9 := by
    rcases HG9 with h | h
    · rw [h]; exact H.ne
    · omega
  have hOw : Only B w w9 := by
    have h1 : Only B w (W1.alloc (.cells (r03cells n').toArray 194)).drew := ((Only.of_below HB2 (fun k hk => HB k hk)).alloc (fun k hk => HB k (by omega)) _).drew
    refine h1.trans (HO9.mono ?_)
    rintro k (rfl | hk)
    · exact H.lo.2
    · exact HB k (by omega)
  refine ⟨⟨?_, ?_, hgr, ⟨H.lo.1, ?_⟩, ?_⟩, ?_⟩
  · exact heap_setCell_same _ _ _ _ _ _ HH9
  · rw [flat_append, List.length_append]
    exact HQ9.of_heap (Below.heap_setCell _ _ _ _ (Ne.symm hgr)) (by simp [World.setCell])
  · rcases HG9 with h | h
    · rw [h]; exact H.lo.2
    · exact HB g9 (by omega)
  · intro i m t j hi hj
    rw [List.length_append]
    show j < G.length + 1
    by_cases hil : i < G.length
    · rw [List.getElem?_append_left hil] at hi
      have := H.closed i m t j hi hj
      omega
    · have hie : i = G.length := by
        have := (List.getElem?_eq_some_iff.1 hi).1
        simp at this; omega
      subst hie
      simp at hi
      subst hi
      rw [HN'] at hj
      unfold Hy.setDown Hy.setTo Hy.fresh at hj
      simp only at hj
      by_cases hts : t = s
      · rw [if_pos hts] at hj; cases hj; omega
      · rw [if_neg hts] at hj; cases hj
  · exact hOw.setCell (p := ⟨gb, 3, none⟩) H.lo.1 _

/-- What a corner comes to, where it has an order. -/
def Tail (o : Hy.Ord) (f : List Hy.Node → Nat → Nat → Option (List Hy.Node × Nat)) (s t y m : Nat) (Gr G1 : List Hy.Node) (R : Option Nat) : Prop :=
  (R = none ∧ G1 = Gr) ∨ ∃ v G' z nz ny, R = some v ∧ Hy.climb f m Gr v (if (m + 1) % 2 = 0 then s else t) (if (m + 1) % 2 = 0 then t else s) = some (G', z) ∧ z ≠ y ∧
    (Hy.link G' z y t)[z]? = some nz ∧ (Hy.link G' z y t)[y]? = some ny ∧ nz.word.length < 1000 ∧ nz.word.length + 1 = ny.word.length ∧
    G1 = if Hy.less (nz.word ++ Hy.letter t) ny.word then (Hy.link G' z y t).modify y (Hy.setWord (nz.word ++ Hy.letter t)) else Hy.link G' z y t

theorem corner_three {o : Hy.Ord} {f : List Hy.Node → Nat → Nat → Option (List Hy.Node × Nat)} {x s y t : Nat} {G G1 : List Hy.Node} (hc : Hy.cornerL 1000 o f x s y G t = some G1) :
    (t = s ∧ G1 = G) ∨ (t ≠ s ∧ o.m s t = 0 ∧ G1 = G) ∨ ∃ m R, t ≠ s ∧ o.m s t = m + 1 ∧ Hy.lowest G m x t s = some R ∧ Tail o f s t y m G G1 R := by
  rcases Hy.cornerL_cases hc with h | h | ⟨m, h1, h2, h4, h5⟩ | ⟨m, v, G', z, nz, ny, h1, h2, h4, h5, h6, h7, h8, h9, h10, h11⟩
  · exact .inl h
  · exact .inr (.inl h)
  · exact .inr (.inr ⟨m, none, h1, h2, h4, .inl ⟨rfl, h5⟩⟩)
  · exact .inr (.inr ⟨m, some v, h1, h2, h4, .inr ⟨v, G', z, nz, ny, rfl, h5, h6, h7, h8, h9, h10, h11⟩⟩)

/-- What the recursion may use. -/
def R03IH (o : Hy.Ord) (B : Nat → Prop) (gb lim : Nat) (f : List Hy.Node → Nat → Nat → Option (List Hy.Node × Nat)) : Prop :=
  ∀ (w : World) (rb : Nat) (v : Value) (G : List Hy.Node) (x s : Nat) (G' : List Hy.Node) (y : Nat), RG w o B gb rb v G → Free B w → s < 3 → f G x s = some (G', y) → G'.length ≤ lim →
    Calls Tryz.prog 148 #[.pointer (some ⟨gb, 0, none⟩), .int .i64 x, .int .i64 s] w (R03Post o B gb G G' y w)

/-- The code behind the first n statements. -/
def behind : Nat → Code → Code
  | 0, c => c
  | n + 1, .seq _ b => behind n b
  | _ + 1, c => c

set_option maxRecDepth 100000 in
set_option maxHeartbeats 16000000 in
theorem r03_step_rest {w wc : World} {o : Hy.Ord} (ho : Small o) {B : Nat → Prop} {gb rb2 nb : Nat} {v2 : Value} {G : List Hy.Node} (hB : Free B w) {x s : Nat} (hs : s < 3) {n n' : Hy.Node} (hx : G[x]? = some n) (hy : n.to s = none)
    (hn' : n' = Hy.setDown s (Hy.setTo s x (Hy.fresh (n.word ++ Hy.letter s)))) {lim : Nat} (hlim : lim ≤ 1000000000) {f : List Hy.Node → Nat → Nat → Option (List Hy.Node × Nat)} (ih : R03IH o B gb lim f) {Gc : List Hy.Node} (hf : Longer f) (hc : Hy.cornersL 1000 o f x s G.length 3 (Hy.sprout G n x s) = some Gc) (hGc : Gc.length ≤ lim)
    (hR2 : RG wc o B gb rb2 v2 (G ++ [n'])) (hO2 : Only B w wc) (s3 s4 s5 s9 s10 s11 s12 s13 s14 s15 s16 s17 s18 s19 s20 s21 s22 s23 s24 s25 s26 s27 s28 s29 s30 s31 s32 s33 s34 s35 s36 s37 s38 s39 s40 s41 s42 s43 s44 s45 s46 s47 s48 s49 s50 s51 s52 s53 s54 s55 s56 s57 s58 s59 s60 s61 s62 s63 s64 s65 s66 s67 s68 s69 s70 s71 s72 s73 s74 s75 s76 s77 s78 s79 s80 s81 s82 s83 s84 s85 s86 s87 s88 s89 s90 s91 s92 s93 s94 s95 s96 s97 s98 s99 s100 s101 s102 s103 s104 s105 s106 s107 s108 s109 s110 s111 s112 s113 s114 s115 s116 s117 s118 s119 s120 s121 s122 s123 s124 s125 s126 s127 s128 s129 s130 s131 s132 s133 s134 s135 s136 s137 s138 s139 s140 s141 s142 s143 s144 s145 s146 s147 s148 s149 s150 s151 s152 s153 s154 s155 s156 s157 s158 s159 s160 s161 s162 s163 s164 s165 s166 s167 s168 s169 s170 s171 s172 s173 s174 s175 s176 s177 s178 s179 s180 s181 s182 s183 s184 s185 s186 s187 s188 s189 s190 s191 s192 s193 s194 s195 s196 s197 s198 s199 s200 s201 s202 s203 s204 s205 s206 s207 s208 s209 s210 s211 s212 s213 s214 s215 s216 s217 : Value) :
    Code.wp Tryz.prog (behind 7 (Tryz.f148.body.getD .skip)) (bodyPost Tryz.prog Tryz.f148 (R03Post o B gb G Gc G.length w)) ⟨#[.pointer (some ⟨gb, 0, none⟩), .int .i64 x, .int .i64 s, s3, s4, s5, .int .i64 0, .int .i64 (G.length : Nat), .pointer (some ⟨nb, 0, none⟩), s9, s10, s11, s12, s13, s14, s15, s16, s17, s18, s19, s20, s21, s22, s23, s24, s25, s26, s27, s28, s29, s30, s31, s32, s33, s34, s35, s36, s37, s38, s39, s40, s41, s42, s43, s44, s45, s46, s47, s48, s49, s50, s51, s52, s53, s54, s55, s56, s57, s58, s59, s60, s61, s62, s63, s64, s65, s66, s67, s68, s69, s70, s71, s72, s73, s74, s75, s76, s77, s78, s79, s80, s81, s82, s83, s84, s85, s86, s87, s88, s89, s90, s91, s92, s93, s94, s95, s96, s97, s98, s99, s100, s101, s102, s103, s104, s105, s106, s107, s108, s109, s110, s111, s112, s113, s114, s115, s116, s117, s118, s119, s120, s121, s122, s123, s124, s125, s126, s127, s128, s129, s130, s131, s132, s133, s134, s135, s136, s137, s138, s139, s140, s141, s142, s143, s144, s145, s146, s147, s148, s149, s150, s151, s152, s153, s154, s155, s156, s157, s158, s159, s160, s161, s162, s163, s164, s165, s166, s167, s168, s169, s170, s171, s172, s173, s174, s175, s176, s177, s178, s179, s180, s181, s182, s183, s184, s185, s186, s187, s188, s189, s190, s191, s192, s193, s194, s195, s196, s197, s198, s199, s200, s201, s202, s203, s204, s205, s206, s207, s208, s209, s210, s211, s212, s213, s214, s215, s216, s217], []⟩ wc := by
  have hxl : x < G.length := (List.getElem?_eq_some_iff.1 hx).1
  suffices hh : ∀ c, c = behind 7 (Tryz.f148.body.getD .skip) → Code.wp Tryz.prog c (bodyPost Tryz.prog Tryz.f148 (R03Post o B gb G Gc G.length w)) ⟨#[.pointer (some ⟨gb, 0, none⟩), .int .i64 x, .int .i64 s, s3, s4, s5, .int .i64 0, .int .i64 (G.length : Nat), .pointer (some ⟨nb, 0, none⟩), s9, s10, s11, s12, s13, s14, s15, s16, s17, s18, s19, s20, s21, s22, s23, s24, s25, s26, s27, s28, s29, s30, s31, s32, s33, s34, s35, s36, s37, s38, s39, s40, s41, s42, s43, s44, s45, s46, s47, s48, s49, s50, s51, s52, s53, s54, s55, s56, s57, s58, s59, s60, s61, s62, s63, s64, s65, s66, s67, s68, s69, s70, s71, s72, s73, s74, s75, s76, s77, s78, s79, s80, s81, s82, s83, s84, s85, s86, s87, s88, s89, s90, s91, s92, s93, s94, s95, s96, s97, s98, s99, s100, s101, s102, s103, s104, s105, s106, s107, s108, s109, s110, s111, s112, s113, s114, s115, s116, s117, s118, s119, s120, s121, s122, s123, s124, s125, s126, s127, s128, s129, s130, s131, s132, s133, s134, s135, s136, s137, s138, s139, s140, s141, s142, s143, s144, s145, s146, s147, s148, s149, s150, s151, s152, s153, s154, s155, s156, s157, s158, s159, s160, s161, s162, s163, s164, s165, s166, s167, s168, s169, s170, s171, s172, s173, s174, s175, s176, s177, s178, s179, s180, s181, s182, s183, s184, s185, s186, s187, s188, s189, s190, s191, s192, s193, s194, s195, s196, s197, s198, s199, s200, s201, s202, s203, s204, s205, s206, s207, s208, s209, s210, s211, s212, s213, s214, s215, s216, s217], []⟩ wc from hh _ rfl
  intro c hcode
  simp only [Tryz.f148, Option.getD_some, behind] at hcode
  subst hcode
  have HX := Lib.hid hx; clear hx
  have HY := Lib.hid hy; clear hy
  have HC := Lib.hid hc; clear hc
  have IH := Lib.hid ih; clear ih
  have HB := Lib.hid hB; clear hB
  have HL := Lib.hid hGc; clear hGc
  have HF := Lib.hid hf; clear hf
  have HN' := Lib.hid hn'; clear hn'
  have HR2 := Lib.hid hR2; clear hR2
  have HO2 := Lib.hid hO2; clear hO2
  obtain ⟨off2, cap2, rfl, hg2, hnode2, hne2, hgl2, hrl2⟩ := HR2.out.opened
  have hx2 : (G ++ [n'])[x]? = some n := by rw [List.getElem?_append_left hxl]; exact HX.out
  have hl2 : (G ++ [n']).length = G.length + 1 := by simp
  have hput := HR2.out.put hx2 (j := 1 + s) (by omega) (u := .int .i64 (G.length : Nat)) (cells_setTo hs) (fun r k hk => by
    unfold Hy.setTo at hk
    simp only at hk
    by_cases hrs : r = s
    · rw [if_pos hrs] at hk; cases hk; omega
    · rw [if_neg hrs] at hk; exact HR2.out.closed x n r k hx2 hk)
  rw [HN'.out, sprout_eq HX.out, ← Nat.add_assoc] at hput
  have hO3 := HO2.out.setCell (p := ⟨rb2, off2 + x * 8 + 1 + s, none⟩) HR2.out.lo.2 (.int .i64 (G.length : Nat))
  have c8 := (hnode2 x n hx2).nto s hs
  rw [HY.out] at c8
  unfold ix at c8
  simp only at c8
  have f8 : wc.frozen? ⟨rb2, off2 + x * 8 + 1 + s, none⟩ = false := by
    have := (hnode2 x n hx2).nfree (1 + s) (by omega)
    rwa [← Nat.add_assoc] at this
  rw [hl2] at hg2
  have HPUT := Lib.hid hput; clear hput
  have HO3 := Lib.hid hO3; clear hO3
  clear hnode2 hx2 hl2 HR2 HO2
  go_upto_region 9 with fail
  generalize hW2 : wc.setCell ⟨rb2, off2 + x * 8 + 1 + s, none⟩ (.int .i64 (G.length : Nat)) = W2
  rw [hW2] at HPUT HO3
  clear hg2 c8 f8 hW2
  go_wp2_with fail
  go_loopw [9] (fun i wr => ∃ (r : Nat) (rb' : Nat) (v' : Value) (Gr : List Hy.Node), r ≤ 3 ∧ i = .int .i64 ((3 - r : Nat) : Int) ∧ Hid (RG wr o B gb rb' v' Gr) ∧ Hid (Hy.cornersL 1000 o f x s G.length r Gr = some Gc) ∧ Hid (Only B w wr) ∧ G.length + 1 ≤ Gr.length) (fun i _ => 3 - (intOf i).toNat)
  case atStart => exact ⟨3, rb2, _, Hy.sprout G n x s, by omega, rfl, HPUT, HC, HO3, by rw [sprout_length]; omega⟩
  case round =>
    obtain ⟨r, rb', v', Gr, hr3, rfl, HR, HCr, HBr, hlen⟩ := hrel
    cases r with
    | zero =>
      go_wp2_with fail
      go_ret
      have hc0 := HCr.out
      unfold Hy.cornersL at hc0
      cases hc0
      exact ⟨rb', v', rfl, HR.out, HBr.out, by omega, by omega⟩
    | succ r =>
      obtain ⟨G1, hc1, hc2⟩ := Hy.cornersL_succ HCr.out
      have hG1 : G1.length ≤ lim := Nat.le_trans (cornersL_len HF.out hc2) HL.out
      have HG1 := Lib.hid hG1; clear hG1
      have HC2 := Lib.hid hc2; clear hc2
      obtain ⟨t, ht, ht3⟩ : ∃ t, t = 3 - (r + 1) ∧ t < 3 := ⟨_, rfl, by omega⟩
      rw [← ht] at hc1 ⊢
      have htr : 3 - r = t + 1 := by omega
      have HT := Lib.hid htr; clear htr
      have HT' := Lib.hid ht; clear ht
      have hgr := HR.out.graph
      have q0 := cell_of_heap hgr 0
      have q1 := cell_of_heap hgr 1
      have q2 := cell_of_heap hgr 2
      simp at q0 q1 q2
      clear hgr
      have HBET := Lib.hid (fun W hne => r03_Between o s t hs ht3 hne W)
      unfold ordersV at HBET
      have hlrG : Gr.length ≤ lim := Nat.le_trans (cornersL_len HF.out HCr.out) HL.out
      rcases corner_three hc1 with ⟨h1, h2⟩ | ⟨h1, h2, h4⟩ | ⟨m, R, h1, h2, h4, hT⟩
      · subst h2
        have g1 : ((t : Int) != (s : Int)) = false := by rw [bne_eq_false_iff_eq]; omega
        clear h1 hc1 q0 q1 q2
        go_wp2_with fail
        go_roundw
        case rel => exact ⟨r, rb', v', G1, by omega, by rw [HT.out]; rfl, HR, HC2, HBr, hlen⟩
        case measure => simp [intOf]; omega
      · subst h4
        have g1 : ((t : Int) != (s : Int)) = true := by rw [bne_iff_ne]; omega
        have hbet := fun W => HBET.out W (Ne.symm h1)
        rw [h2] at hbet
        have HBT := Lib.hid hbet; clear hbet
        clear h1 hc1 h2
        go_wp2_with fail
        refine (HBT.out _).mono ?_
        rintro e w2 ⟨rfl, hB2⟩
        have HB2 := Lib.hid hB2; clear hB2
        go_wp2_with fail
        go_roundw
        case rel => exact ⟨r, rb', v', G1, by omega, by rw [HT.out]; rfl, HR.out.heap HB2.out, HC2, HBr.out.trans (Only.of_below HB2.out (fun k hk => HB.out k (by have := HBr.out.size; omega))), hlen⟩
        case measure => simp [intOf]; omega
      -- a corner with a finite order: down on one side
      · have HTT := Lib.hid hT; clear hT
        have g1 : ((t : Int) != (s : Int)) = true := by rw [bne_iff_ne]; omega
        have hm12 : m + 1 ≤ 12 := by have := ho.a; have := ho.b; have := ho.c; rw [← h2]; unfold Hy.Ord.m; split; assumption; split <;> assumption
        have hbet := fun W => HBET.out W (Ne.symm h1)
        rw [h2, show ((m + 1 : Nat) : Int) = (m : Int) + 1 by omega] at hbet
        have HBT := Lib.hid hbet; clear hbet
        have H4 := Lib.hid h4; clear h4
        have hts := h1
        clear h1 h2 hc1
        go_wp2_with fail
        refine (HBT.out _).mono ?_
        rintro e w2 ⟨rfl, hB2⟩
        have hR2 := HR.out.heap hB2
        have hO2 := HBr.out.trans (Only.of_below hB2 (fun k hk => HB.out k (by have := HBr.out.size; omega)))
        obtain ⟨off3, cap3, rfl, hg3, hnode3, hne3, hgl3, hrl3⟩ := hR2.opened
        have HR2' := Lib.hid hR2; clear hR2
        have HO2' := Lib.hid hO2; clear hO2
        have HN3 := Lib.hid hnode3; clear hnode3 hB2
        clear q0 q1 q2 HBT
        have g2 : ((m : Int) + 1 == 0) = false := by rw [beq_eq_false_iff_ne]; omega
        go_wp2_with fail
        go_loop [11, 12, 13] (fun pv av kv => ∃ (k p : Nat) (al : Bool), k ≤ m ∧ p < Gr.length ∧ pv = .int .i64 p ∧ av = .bool al ∧ kv = .int .i64 k ∧ Hid (al = true → Hy.lowest Gr (m - k) p (if k % 2 = 0 then t else s) (if k % 2 = 0 then s else t) = some R) ∧ Hid (al = false → R = none)) (fun _ _ kv => m + 1 - (intOf kv).toNat)
        case atStart => exact ⟨0, x, true, Nat.zero_le _, by omega, rfl, rfl, rfl, fun _ => H4.out, fun h => by cases h⟩
        case round =>
          obtain ⟨k, p, al, hk, hp, rfl, rfl, rfl, HL1, HL2⟩ := hrel
          by_cases hkm : k < m
          · cases al with
            | true =>
              have hlow := HL1.out rfl
              obtain ⟨j, hj⟩ : ∃ j, m - k = j + 1 := ⟨m - k - 1, by omega⟩
              rw [hj] at hlow
              unfold Hy.lowest at hlow
              have hn : Gr[p]? = some Gr[p] := List.getElem?_eq_getElem hp
              rw [hn] at hlow
              simp only at hlow
              have hoth := fun W => r03_other t s k (by omega) W
              obtain ⟨c, hc⟩ : ∃ c, c = (if k % 2 = 0 then t else s) := ⟨_, rfl⟩
              have hc' : (if k % 2 = 0 then s else t) = (if (k + 1) % 2 = 0 then t else s) := by
                by_cases hp2 : k % 2 = 0
                · rw [if_pos hp2, if_neg (by omega)]
                · rw [if_neg hp2, if_pos (by omega)]
              have hc'' : c = (if (k + 1) % 2 = 0 then s else t) := by
                rw [hc]
                by_cases hp2 : k % 2 = 0
                · rw [if_pos hp2, if_neg (by omega)]
                · rw [if_neg hp2, if_pos (by omega)]
              rw [← hc] at hlow hoth
              rw [hc', hc''] at hlow
              rw [← hc''] at hlow
              have hc3 : c < 3 := by rw [hc]; split <;> omega
              have HOTH := Lib.hid hoth; clear hoth
              have HC3 := Lib.hid hc''; clear hc'' hc' hc
              have d1 := (HN3.out p Gr[p] hn).ndown c hc3
              have d2 := (HN3.out p Gr[p] hn).nto c hc3
              cases hd : Gr[p].down c with
              | true =>
                rw [hd] at hlow d1
                simp only [if_true] at hlow
                cases hto : Gr[p].to c with
                | none => rw [hto] at hlow; cases hlow
                | some p' =>
                  rw [hto] at hlow d2
                  simp only at hlow
                  unfold ix at d2
                  simp only at d2
                  have hp' := HR2'.out.closed p Gr[p] c p' hn hto
                  rw [show j = m - (k + 1) by omega] at hlow
                  have HLO := Lib.hid hlow; clear hlow
                  clear hd hto hn hj
                  go_wp2_with fail
                  refine (HOTH.out _).mono ?_
                  rintro e w3 ⟨rfl, rfl⟩
                  clear HOTH
                  go_wp2_with fail
                  go_round
                  case rel => exact ⟨k + 1, p', true, by omega, hp', rfl, rfl, by go_num, fun _ => by rw [← HC3.out]; exact HLO.out, fun h => (by cases h)⟩
                  case measure => simp [intOf]; omega
              | false =>
                rw [hd] at hlow d1
                simp only [Bool.false_eq_true, if_false, Option.some.injEq] at hlow
                have HLO := Lib.hid hlow; clear hlow
                clear hd hn hj d2
                go_wp2_with fail
                refine (HOTH.out _).mono ?_
                rintro e w3 ⟨rfl, rfl⟩
                clear HOTH
                go_wp2_with fail
                go_round
                case rel => exact ⟨k + 1, p, false, by omega, hp, rfl, rfl, by go_num, fun h => (by cases h), fun _ => HLO.out.symm⟩
                case measure => simp [intOf]; omega
            | false =>
              have hGG : G1 = Gr := by
                rcases HTT.out with ⟨_, hG⟩ | ⟨v, G', z, nz, ny, hRv, _⟩
                · exact hG
                · rw [HL2.out rfl] at hRv; cases hRv
              have HGG := Lib.hid hGG; clear hGG
              go_wp2_with fail
              go_roundw
              case rel => exact ⟨r, rb', _, G1, by omega, by rw [HT.out]; rfl, by rw [HGG.out]; exact HR2', HC2, HO2', by rw [HGG.out]; exact hlen⟩
              case measure => simp [intOf]; omega
          · obtain rfl : k = m := by omega
            clear hkm
            cases al with
            | false =>
              have hGG : G1 = Gr := by
                rcases HTT.out with ⟨_, hG⟩ | ⟨v, G', z, nz, ny, hRv, _⟩
                · exact hG
                · rw [HL2.out rfl] at hRv; cases hRv
              have HGG := Lib.hid hGG; clear hGG
              go_wp2_with fail
              go_roundw
              case rel => exact ⟨r, rb', _, G1, by omega, by rw [HT.out]; rfl, by rw [HGG.out]; exact HR2', HC2, HO2', by rw [HGG.out]; exact hlen⟩
              case measure => simp [intOf]; omega
            | true =>
              have hlow := HL1.out rfl
              rw [Nat.sub_self] at hlow
              unfold Hy.lowest at hlow
              simp only [Option.some.injEq] at hlow
              obtain ⟨v, G', z, nz, ny, hRv, h5, h6, h7, h8, h9, h10, h11⟩ : ∃ v G' z nz ny, R = some v ∧ Hy.climb f k Gr v (if (k + 1) % 2 = 0 then s else t) (if (k + 1) % 2 = 0 then t else s) = some (G', z) ∧ z ≠ G.length ∧
                  (Hy.link G' z G.length t)[z]? = some nz ∧ (Hy.link G' z G.length t)[G.length]? = some ny ∧ nz.word.length < 1000 ∧ nz.word.length + 1 = ny.word.length ∧
                  G1 = if Hy.less (nz.word ++ Hy.letter t) ny.word then (Hy.link G' z G.length t).modify G.length (Hy.setWord (nz.word ++ Hy.letter t)) else Hy.link G' z G.length t := by
                rcases HTT.out with ⟨hR, _⟩ | h
                · rw [← hlow] at hR; cases hR
                · exact h
              have hvp : p = v := by have := hlow.trans hRv; exact Option.some.inj this
              have H5 := Lib.hid h5; clear h5
              have H6 := Lib.hid h6; clear h6
              have H7 := Lib.hid h7; clear h7
              have H8 := Lib.hid h8; clear h8
              have H9 := Lib.hid h9; clear h9
              have H10 := Lib.hid h10; clear h10
              have H11 := Lib.hid h11; clear h11
              clear hRv HTT
              subst hvp
              clear hlow HL1 HL2
              have hG'l : G'.length ≤ lim := by
                have h := HG1.out
                rw [H11.out] at h
                by_cases hl : Hy.less (nz.word ++ Hy.letter t) ny.word = true
                · rw [if_pos hl, List.length_modify, Hy.length_link] at h; exact h
                · rw [if_neg hl, Hy.length_link] at h; exact h
              have HG' := Lib.hid hG'l; clear hG'l
              have h5 := H5.out
              rw [show (if (k + 1) % 2 = 0 then s else t) = (if k % 2 = 0 then t else s) by by_cases hp2 : k % 2 = 0; rw [if_pos hp2, if_neg (by omega)]; rw [if_neg hp2, if_pos (by omega)],
                show (if (k + 1) % 2 = 0 then t else s) = (if k % 2 = 0 then s else t) by by_cases hp2 : k % 2 = 0; rw [if_pos hp2, if_neg (by omega)]; rw [if_neg hp2, if_pos (by omega)]] at h5
              have H5' := Lib.hid h5; clear h5 H5
              go_wp2_with fail
              obtain ⟨wo, hwo⟩ : ∃ wo : World, wo = w2 := ⟨_, rfl⟩
              have HWO := Lib.hid hwo; clear hwo
              go_loopw [11, 15] (fun vv kv wq => ∃ (r3 k3 : Nat) (rbq : Nat) (vq : Value) (Gq : List Hy.Node) (zz : Nat), k3 + r3 = k + 1 ∧ 1 ≤ k3 ∧ vv = .int .i64 zz ∧ kv = .int .i64 k3 ∧ Hid (RG wq o B gb rbq vq Gq) ∧ Hid (Hy.climb f r3 Gq zz (if r3 % 2 = 0 then t else s) (if r3 % 2 = 0 then s else t) = some (G', z)) ∧ Hid (Only B w wq) ∧ G.length + 1 ≤ Gq.length) (fun _ kv _ => k + 1 - (intOf kv).toNat)
              case atStart => exact ⟨k, 1, rb', _, Gr, p, by omega, by omega, rfl, rfl, HR2', H5', HO2', hlen⟩
              case round =>
                obtain ⟨r3, k3, rbq, vq, Gq, zz, hr3, hk31, rfl, rfl, HRq, Hcl, HBq, hlenq⟩ := hrel
                cases r3 with
                | succ r3 =>
                  obtain ⟨Gn, zn, hf3, hcn⟩ := Hy.climb_succ Hcl.out
                  have hGn : Gn.length ≤ lim := Nat.le_trans (climb_len HF.out hcn) HG'.out
                  obtain ⟨q, hq⟩ : ∃ q, q = r3 + 1 := ⟨_, rfl⟩
                  rw [← hq] at hf3 hcn
                  have hsub : (k : Int) + 1 - (k3 : Int) = (q : Int) := by omega
                  have hoth := fun W => r03_other t s q (by omega) W
                  obtain ⟨c, hc⟩ : ∃ c, c = (if q % 2 = 0 then t else s) := ⟨_, rfl⟩
                  rw [← hc] at hf3 hoth
                  have hc3 : c < 3 := by rw [hc]; split <;> omega
                  have e1 : (if q % 2 = 0 then s else t) = (if r3 % 2 = 0 then t else s) := by
                    by_cases hp2 : r3 % 2 = 0
                    · rw [if_pos hp2, if_neg (by omega)]
                    · rw [if_neg hp2, if_pos (by omega)]
                  have e2 : c = (if r3 % 2 = 0 then s else t) := by
                    rw [hc]
                    by_cases hp2 : r3 % 2 = 0
                    · rw [if_pos hp2, if_neg (by omega)]
                    · rw [if_neg hp2, if_pos (by omega)]
                  rw [← hc, e1, e2] at hcn
                  have HCN := Lib.hid hcn; clear hcn
                  have hcall := IH.out wr rbq vq Gq zz c Gn zn HRq.out (HB.out.grow HBq.out.size) hc3 hf3 hGn
                  have HCALL := Lib.hid hcall; clear hcall hf3
                  have HOTH := Lib.hid hoth; clear hoth
                  clear e1 e2 hc hq
                  go_wp2_with fail
                  refine (HOTH.out _).mono ?_
                  rintro e w3 ⟨rfl, rfl⟩
                  clear HOTH
                  go_wp2_with fail
                  refine HCALL.out.mono ?_
                  rintro e w4 ⟨rb4, v4, rfl, hR4, hO4, hlen4, hzn⟩
                  clear HCALL
                  have HR4 := Lib.hid hR4; clear hR4
                  have HO4 := Lib.hid hO4; clear hO4
                  go_wp2_with fail
                  go_roundw
                  case rel => exact ⟨r3, k3 + 1, rb4, v4, Gn, zn, by omega, by omega, rfl, by go_num, HR4, HCN, HBq.out.trans HO4.out, by omega⟩
                  case measure => simp [intOf]; omega
                | zero =>
                  have hc0 := Hcl.out
                  unfold Hy.climb at hc0
                  cases hc0
                  clear Hcl
                  have hzl : z < G'.length := by
                    have := (List.getElem?_eq_some_iff.1 H7.out).1
                    rwa [Hy.length_link] at this
                  have hyl : G.length < G'.length := by omega
                  obtain ⟨off4, cap4, rfl, hg4, hnode4, hne4, hgl4, hrl4⟩ := HRq.out.opened
                  have hz4 : G'[z]? = some G'[z] := List.getElem?_eq_getElem hzl
                  have hy4 : G'[G.length]? = some G'[G.length] := List.getElem?_eq_getElem hyl
                  obtain ⟨-, ⟨u4, c4, -⟩, f4, hp4, ho4⟩ := HRq.out.write rfl hz4 (j := 1 + t) (by omega) (.int .i64 (G.length : Nat)) (cells_setTo ht3) (fun r' k' hk' => by
                    unfold Hy.setTo at hk'
                    simp only at hk'
                    by_cases hrs : r' = t
                    · rw [if_pos hrs] at hk'; cases hk'; omega
                    · rw [if_neg hrs] at hk'; exact HRq.out.closed z G'[z] r' k' hz4 hk')
                  rw [← Nat.add_assoc] at c4 f4 hp4 ho4
                  have HP4 := Lib.hid hp4; clear hp4
                  have HO4 := Lib.hid ho4; clear ho4
                  clear hnode4
                  go_upto_region 31 with fail
                  generalize hWA : wr.setCell ⟨rbq, off4 + z * 8 + 1 + t, none⟩ (.int .i64 (G.length : Nat)) = WA
                  rw [hWA] at HP4 HO4
                  clear hg4 c4 f4 hWA
                  have hy5 : (G'.set z (Hy.setTo t G.length G'[z]))[G.length]? = some G'[G.length] := by rw [List.getElem?_set_ne H6.out]; exact hy4
                  obtain ⟨g5, ⟨u5, c5, -⟩, f5, hp5, ho5⟩ := HP4.out.write (by rw [List.length_set]) hy5 (j := 1 + t) (by omega) (.int .i64 (z : Nat)) (cells_setTo ht3) (fun r' k' hk' => by
                    rw [List.length_set]
                    unfold Hy.setTo at hk'
                    simp only at hk'
                    by_cases hrs : r' = t
                    · rw [if_pos hrs] at hk'; cases hk'; omega
                    · rw [if_neg hrs] at hk'; exact HRq.out.closed G.length G'[G.length] r' k' hy4 hk')
                  rw [← Nat.add_assoc] at c5 f5 hp5 ho5
                  have HP5 := Lib.hid hp5; clear hp5
                  have HO5 := Lib.hid ho5; clear ho5
                  go_upto_region 32 with fail
                  generalize hWB : WA.setCell ⟨rbq, off4 + G.length * 8 + 1 + t, none⟩ (.int .i64 (z : Nat)) = WB
                  rw [hWB] at HP5 HO5
                  clear g5 c5 f5 hWB
                  have hy6 : ((G'.set z (Hy.setTo t G.length G'[z])).set G.length (Hy.setTo t z G'[G.length]))[G.length]? = some (Hy.setTo t z G'[G.length]) := List.getElem?_set_self (by rw [List.length_set]; exact hyl)
                  obtain ⟨g6, ⟨u6, c6, -⟩, f6, hp6, ho6⟩ := HP5.out.write (by rw [List.length_set, List.length_set]) hy6 (j := 4 + t) (by omega) (.bool true) (cells_setDown ht3) (fun r' k' hk' => by
                    rw [List.length_set, List.length_set]
                    unfold Hy.setDown Hy.setTo at hk'
                    simp only at hk'
                    by_cases hrs : r' = t
                    · rw [if_pos hrs] at hk'; cases hk'; omega
                    · rw [if_neg hrs] at hk'; exact HRq.out.closed G.length G'[G.length] r' k' hy4 hk')
                  rw [← Nat.add_assoc] at c6 f6 hp6 ho6
                  rw [link_set_eq hz4 hy4 H6.out] at hp6
                  have HP6 := Lib.hid hp6; clear hp6
                  have HO6 := Lib.hid ho6; clear ho6
                  go_upto_region 33 with fail
                  generalize hWC : WB.setCell ⟨rbq, off4 + G.length * 8 + 4 + t, none⟩ (.bool true) = WC
                  rw [hWC] at HP6 HO6
                  clear g6 c6 f6 hWC
                  have hOC := ((HBq.out.trans HO4.out).trans HO5.out).trans HO6.out
                  have HOC := Lib.hid hOC; clear hOC
                  clear HP4 HP5 HO4 HO5 HO6 hy5 hy6 hz4 hy4 HRq
                  obtain ⟨g7, ⟨u7, c7, hu7⟩, -⟩ := HP6.out.write (by rw [Hy.length_link]) H7.out (j := 7) (by omega) (str nz.word) rfl (fun r' k' hk' => HP6.out.closed z nz r' k' H7.out hk')
                  obtain ⟨-, ⟨u8, c8, hu8⟩, f8, hp8, ho8⟩ := HP6.out.write (by rw [Hy.length_link]) H8.out (j := 7) (by omega) (str (nz.word ++ Hy.letter t)) (cells_setWord (by have := H10.out; simp [Hy.letter]; omega)) (fun r' k' hk' => HP6.out.closed G.length ny r' k' H8.out hk')
                  have e7 : str nz.word = u7 := Option.some.inj hu7
                  have e8 : str ny.word = u8 := Option.some.inj hu8
                  rw [← e7] at c7
                  rw [← e8] at c8
                  clear e7 e8 hu7 hu8 u7 u8
                  have hszC : gb < WC.heap.size ∧ rbq < WC.heap.size := ⟨World.block_lt_of_cell? _ _ g7, World.block_lt_of_cell? _ _ c7⟩
                  obtain ⟨hszg, hszr⟩ := hszC
                  unfold str at c7 c8
                  have HLT := Lib.hid (fun W => (r03_letter t (by omega) W).mono (fun e w' h => And.intro h.1 (show Below W.heap.size W w' from h.2 ▸ (Below.refl _ _).alloc (Nat.le_refl _) _)))
                  unfold str Hy.letter at HLT
                  have hz1000 := H9.out
                  have hadd2 : ∀ W' : World, (Op.stringOp .add ⟨nz.word.toArray⟩ ⟨#[UInt8.ofNat t]⟩).run Tryz.prog W' = .ok (.string (⟨nz.word.toArray⟩ ++ ⟨#[UInt8.ofNat t]⟩)) W' := fun W' => by
                    have h2 : IntKind.i64.max = 2 ^ 63 - 1 := rfl
                    simp only [Op.stringOp, ByteArray.size, List.size_toArray, h2]
                    rw [if_neg (by simp; omega)]
                    rfl
                  have HP8 := Lib.hid hp8; clear hp8
                  have HO8 := Lib.hid ho8; clear ho8
                  go_cut [16] (fun v16 wx => v16 = .string ⟨(nz.word ++ Hy.letter t).toArray⟩ ∧ Hid (Below WC.heap.size WC wx))
                  case first =>
                    go_region_held3 (fun w' => w'.cell? ⟨gb, 3, none⟩ = some (.slice (some ⟨rbq, off4, none⟩) G'.length cap4) ∧ w'.cell? ⟨rbq, off4 + z * 8 + 7, none⟩ = some (.string ⟨nz.word.toArray⟩))
                      (first | go_keep | (with_reducible (exact ⟨g9, d9⟩)))
                      ((go_at_call 167; refine (HLT.out _).mono ?_; rintro e w9 ⟨rfl, hB9⟩; obtain ⟨hc9, hf9⟩ := bcell hB9; have g9 : w9.cell? ⟨gb, 3, none⟩ = some (.slice (some ⟨rbq, off4, none⟩) G'.length cap4) := (hc9 gb 3 hszg).trans g7; have d9 : w9.cell? ⟨rbq, off4 + z * 8 + 7, none⟩ = some (.string ⟨nz.word.toArray⟩) := (hc9 rbq _ hszr).trans c7; have hb9 : Below WC.heap.size WC w9 := below_undrew hB9; have HB9 := Lib.hid hb9; clear hb9 hB9 hc9 hf9))
                    all_goals go_wp2_with fail
                    all_goals go_meet
                    case rel => exact ⟨by rw [show (#[UInt8.ofNat t] : Array UInt8) = (Hy.letter t).toArray from rfl, bytes_add], HB9⟩
                  case rest =>
                    obtain ⟨rfl, HB5⟩ := hcut
                    have hb5 := bcell HB5.out
                    have gC : wc.cell? ⟨gb, 3, none⟩ = some (.slice (some ⟨rbq, off4, none⟩) G'.length cap4) := (hb5.1 gb 3 hszg).trans g7
                    have yC : wc.cell? ⟨rbq, off4 + G.length * 8 + 7, none⟩ = some (.string ⟨ny.word.toArray⟩) := (hb5.1 rbq _ hszr).trans c8
                    have fC : wc.frozen? ⟨rbq, off4 + G.length * 8 + 7, none⟩ = false := (hb5.2 rbq _ hszr).trans f8
                    have hRC := HP6.out.heap HB5.out
                    have hOC2 : Only B w wc := HOC.out.trans (Only.of_below HB5.out (fun k' hk' => HB.out k' (by have := HOC.out.size; omega)))
                    obtain ⟨-, -, -, hp9, ho9⟩ := hRC.write (by rw [Hy.length_link]) H8.out (j := 7) (by omega) (str (nz.word ++ Hy.letter t)) (cells_setWord (by have := H10.out; simp [Hy.letter]; omega)) (fun r' k' hk' => HP6.out.closed G.length ny r' k' H8.out hk')
                    rw [← modify_eq_set H8.out] at hp9
                    have hll : (Hy.link G' z G.length t).length = G'.length := Hy.length_link _ _ _ _
                    have hO9 := hOC2.trans ho9
                    unfold str at hp9 hO9
                    have HRC := Lib.hid hRC; clear hRC
                    have HP9 := Lib.hid hp9; clear hp9
                    have HOC2 := Lib.hid hOC2; clear hOC2
                    have HO9 := Lib.hid hO9; clear hO9
                    clear hb5 g7 c7 c8 f8 ho9 hadd2
                    cases hless : Hy.less (nz.word ++ Hy.letter t) ny.word with
                    | true =>
                      have h11 := H11.out
                      rw [if_pos hless] at h11
                      rw [← less_eq] at hless
                      have H12 := Lib.hid h11; clear h11
                      go_wp2_with fail
                      go_roundw
                      case rel => exact ⟨r, rbq, _, G1, by omega, by rw [HT.out]; rfl, by rw [H12.out]; exact HP9.out, HC2, HO9, by rw [H12.out, List.length_modify]; omega⟩
                      case measure => simp [intOf]; omega
                    | false =>
                      have h11 := H11.out
                      rw [if_neg (by rw [hless]; simp)] at h11
                      rw [← less_eq] at hless
                      have H12 := Lib.hid h11; clear h11
                      go_wp2_with fail
                      go_roundw
                      case rel => exact ⟨r, rbq, _, G1, by omega, by rw [HT.out]; rfl, by rw [H12.out]; exact HRC.out, HC2, HOC2, by rw [H12.out]; omega⟩
                      case measure => simp [intOf]; omega


set_option maxRecDepth 100000 in
set_option maxHeartbeats 16000000 in
theorem r03_step_new {w : World} {o : Hy.Ord} (ho : Small o) {B : Nat → Prop} {gb rb : Nat} {v : Value} {G : List Hy.Node} (h : RG w o B gb rb v G) (hB : Free B w) {x s : Nat} (hs : s < 3) {n : Hy.Node} (hx : G[x]? = some n) (hy : n.to s = none) (hl : n.word.length < 1000)
    {lim : Nat} (hlim : lim ≤ 1000000000) {f : List Hy.Node → Nat → Nat → Option (List Hy.Node × Nat)} (ih : R03IH o B gb lim f) {Gc : List Hy.Node} (hf : Longer f) (hc : Hy.cornersL 1000 o f x s G.length 3 (Hy.sprout G n x s) = some Gc) (hGc : Gc.length ≤ lim) :
    Calls Tryz.prog 148 #[.pointer (some ⟨gb, 0, none⟩), .int .i64 x, .int .i64 s] w (R03Post o B gb G Gc G.length w) := by
  have hxl : x < G.length := (List.getElem?_eq_some_iff.1 hx).1
  obtain ⟨off, cap, rfl, hg, hnode, hne, hgl, hrl⟩ := h.opened
  have hN := hnode x n hx
  have ct := hN.nto s hs
  rw [hy] at ct
  unfold ix at ct
  simp only at ct
  have cl := hN.nlen
  have cw := hN.nword
  unfold str at cw
  have hga : ∀ ob, (w.alloc ob).cell? ⟨gb, 3, none⟩ = some (.slice (some ⟨rb, off, none⟩) G.length cap) := fun ob => (World.cell?_alloc_lt w ob _ hgl).trans hg
  have cla : ∀ ob, (w.alloc ob).cell? ⟨rb, off + x * 8, none⟩ = some (.int .i64 n.word.length) := fun ob => (World.cell?_alloc_lt w ob _ hrl).trans cl
  have cwa : ∀ ob, (w.alloc ob).cell? ⟨rb, off + x * 8 + 7, none⟩ = some (.string ⟨n.word.toArray⟩) := fun ob => (World.cell?_alloc_lt w ob _ hrl).trans cw
  have HLET := Lib.hid (fun W => (r03_letter s (by omega) W).mono (fun e w' h => And.intro h.1 (show Below W.heap.size W w' from h.2 ▸ (Below.refl _ _).alloc (Nat.le_refl _) _)))
  have HX := Lib.hid hx; clear hx
  have HY := Lib.hid hy; clear hy
  have HC := Lib.hid hc; clear hc
  have IH := Lib.hid ih; clear ih
  have HN := Lib.hid hnode; clear hnode hN
  have HB := Lib.hid hB; clear hB
  have H := Lib.hid h; clear h
  have HL := Lib.hid hGc; clear hGc
  have HF := Lib.hid hf; clear hf
  unfold str Hy.letter at HLET
  have hadd : ∀ W' : World, (Op.stringOp .add ⟨n.word.toArray⟩ ⟨#[UInt8.ofNat s]⟩).run Tryz.prog W' = .ok (.string (⟨n.word.toArray⟩ ++ ⟨#[UInt8.ofNat s]⟩)) W' := fun W' => by
    have h2 : IntKind.i64.max = 2 ^ 63 - 1 := rfl
    simp only [Op.stringOp, ByteArray.size, List.size_toArray, h2]
    rw [if_neg (by simp; omega)]
    rfl
  go_enter Tryz.func148, Tryz.ntmps148
  go_upto_region 4 with fail
  go_cut [8] (fun v wx => ∃ nb : Nat, v = .pointer (some ⟨nb, 0, none⟩) ∧ Hid (Below w.heap.size w wx) ∧ w.heap.size ≤ nb ∧ Hid (wx.heap[nb]? = some (.cells #[.int .i64 (n.word.length + 1 : Nat), .int .i64 (-1), .int .i64 (-1), .int .i64 (-1), .bool false, .bool false, .bool false, .string ⟨(n.word ++ Hy.letter s).toArray⟩] 194 (0, 0))))
  case first =>
    go_region_held3 (fun w' => w'.cell? ⟨gb, 3, none⟩ = some (.slice (some ⟨rb, off, none⟩) G.length cap) ∧ w'.cell? ⟨rb, off + x * 8, none⟩ = some (.int .i64 n.word.length) ∧ w'.cell? ⟨rb, off + x * 8 + 7, none⟩ = some (.string ⟨n.word.toArray⟩))
      (first | go_keep | (with_reducible (exact ⟨g4, l4, d4⟩)) | (with_reducible (exact ⟨ga4 _, la4 _, da4 _⟩)) | (refine ⟨?_, ?_, ?_⟩ <;> ((iterate 8 (rw [World.cell?_setCell_other _ _ _ _ (by first | (simp; done) | (simp; omega))])); with_reducible assumption)))
      ((go_at_call 167; refine (HLET.out _).mono ?_; rintro e w4 ⟨rfl, hB4⟩; obtain ⟨hc4, hf4⟩ := bcell hB4;
        have g4 : w4.cell? ⟨gb, 3, none⟩ = some (.slice (some ⟨rb, off, none⟩) G.length cap) := (by first | exact (hc4 gb 3 hgl).trans hg | exact (hc4 gb 3 (by simp; omega)).trans (hga _));
        have l4 : w4.cell? ⟨rb, off + x * 8, none⟩ = some (.int .i64 n.word.length) := (by first | exact (hc4 rb _ hrl).trans cl | exact (hc4 rb _ (by simp; omega)).trans (cla _));
        have d4 : w4.cell? ⟨rb, off + x * 8 + 7, none⟩ = some (.string ⟨n.word.toArray⟩) := (by first | exact (hc4 rb _ hrl).trans cw | exact (hc4 rb _ (by simp; omega)).trans (cwa _));
        have hz4 := hB4.size; (try simp at hz4);
        have ga4 : ∀ ob, (w4.alloc ob).cell? ⟨gb, 3, none⟩ = some (.slice (some ⟨rb, off, none⟩) G.length cap) := (fun ob => (World.cell?_alloc_lt w4 ob _ (by show gb < _; omega)).trans g4);
        have la4 : ∀ ob, (w4.alloc ob).cell? ⟨rb, off + x * 8, none⟩ = some (.int .i64 n.word.length) := (fun ob => (World.cell?_alloc_lt w4 ob _ (by show rb < _; omega)).trans l4);
        have da4 : ∀ ob, (w4.alloc ob).cell? ⟨rb, off + x * 8 + 7, none⟩ = some (.string ⟨n.word.toArray⟩) := (fun ob => (World.cell?_alloc_lt w4 ob _ (by show rb < _; omega)).trans d4);
        have hb4 : Below w.heap.size w w4 := (by first | exact below_undrew hB4 | exact below_unalloc hB4); have HB4 := Lib.hid hb4; 
        (try have n4 : w4.heap[w.heap.size]? = some (.cells #[.int .i64 0, .int .i64 0, .int .i64 0, .int .i64 0, .bool false, .bool false, .bool false, .string ⟨#[]⟩] 194 (0, 0)) := ((hB4.block w.heap.size (by simp)).trans (alloc_heap_new w _)));
        (try have z0 : w4.cell? ⟨w.heap.size, 0, none⟩ = some (Value.int .i64 0) := cell_of_heap n4 0); (try have f0 : w4.frozen? ⟨w.heap.size, 0, none⟩ = false := free_of_heap n4 0); (try have z1 : w4.cell? ⟨w.heap.size, 1, none⟩ = some (Value.int .i64 0) := cell_of_heap n4 1); (try have f1 : w4.frozen? ⟨w.heap.size, 1, none⟩ = false := free_of_heap n4 1); (try have z2 : w4.cell? ⟨w.heap.size, 2, none⟩ = some (Value.int .i64 0) := cell_of_heap n4 2); (try have f2 : w4.frozen? ⟨w.heap.size, 2, none⟩ = false := free_of_heap n4 2); (try have z3 : w4.cell? ⟨w.heap.size, 3, none⟩ = some (Value.int .i64 0) := cell_of_heap n4 3); (try have f3 : w4.frozen? ⟨w.heap.size, 3, none⟩ = false := free_of_heap n4 3); (try have z4 : w4.cell? ⟨w.heap.size, 4, none⟩ = some (Value.bool false) := cell_of_heap n4 4); (try have f4 : w4.frozen? ⟨w.heap.size, 4, none⟩ = false := free_of_heap n4 4); (try have z5 : w4.cell? ⟨w.heap.size, 5, none⟩ = some (Value.bool false) := cell_of_heap n4 5); (try have f5 : w4.frozen? ⟨w.heap.size, 5, none⟩ = false := free_of_heap n4 5); (try have z6 : w4.cell? ⟨w.heap.size, 6, none⟩ = some (Value.bool false) := cell_of_heap n4 6); (try have f6 : w4.frozen? ⟨w.heap.size, 6, none⟩ = false := free_of_heap n4 6); (try have z7 : w4.cell? ⟨w.heap.size, 7, none⟩ = some (Value.string ⟨#[]⟩) := cell_of_heap n4 7); (try have f7 : w4.frozen? ⟨w.heap.size, 7, none⟩ = false := free_of_heap n4 7); (try have N4 := Lib.hid n4); (try clear n4); clear hb4 hB4 hc4 hf4))
    all_goals go_wp2_with fail
    · go_meet
      case rel =>
        refine ⟨_, rfl, HB4.out.alloc (by omega) _, by omega, ?_⟩
        refine (alloc_heap_new w4 _).trans ?_
        have hwr : IntKind.i64.wrap ((n.word.length : Int) + 1) = ((n.word.length + 1 : Nat) : Int) := wrap_add n.word.length 1 (by omega)
        rw [hwr, bytes_add]
        rfl
    · go_meet
      case rel =>
        have hwr : IntKind.i64.wrap ((n.word.length : Int) + 1) = ((n.word.length + 1 : Nat) : Int) := wrap_add n.word.length 1 (by omega)
        rw [hwr, bytes_add]
        exact ⟨_, rfl, below8 HB4.out (Nat.le_refl _) _ _ _ _ _ _ _ _, Nat.le_refl _, store8 N4.out _ _ _ _ _ _ _ _⟩
  case rest =>
    obtain ⟨nb, rfl, HB1, hnb, HN1⟩ := hcut
    have c1 : wc.cell? ⟨nb, 1 + s, none⟩ = some (.int .i64 (-1)) := by
      rw [cell_of_heap HN1.out]
      obtain rfl | rfl | rfl : s = 0 ∨ s = 1 ∨ s = 2 := by omega
      all_goals rfl
    have f1 : wc.frozen? ⟨nb, 1 + s, none⟩ = false := free_of_heap HN1.out _
    have c2 : ∀ u, (wc.setCell ⟨nb, 1 + s, none⟩ u).cell? ⟨nb, 4 + s, none⟩ = some (.bool false) := fun u => by
      rw [World.cell?_setCell_other _ _ _ _ (by simp; try omega), cell_of_heap HN1.out]
      obtain rfl | rfl | rfl : s = 0 ∨ s = 1 ∨ s = 2 := by omega
      all_goals rfl
    have f2 : ∀ u, (wc.setCell ⟨nb, 1 + s, none⟩ u).frozen? ⟨nb, 4 + s, none⟩ = false := fun u => by
      rw [World.frozen?_setCell]; exact free_of_heap HN1.out _
    have hh1 : ∀ W, W = (wc.setCell ⟨nb, 1 + s, none⟩ (.int .i64 x)).setCell ⟨nb, 4 + s, none⟩ (.bool true) → Below w.heap.size w W ∧ W.heap[nb]? = some (.cells (r03cells (Hy.setDown s (Hy.setTo s x (Hy.fresh (n.word ++ Hy.letter s))))).toArray 194 (0, 0)) := by
      rintro W rfl
      refine ⟨(HB1.out.setCell (p := ⟨nb, 1 + s, none⟩) hnb _).setCell (p := ⟨nb, 4 + s, none⟩) hnb _, ?_⟩
      rw [heap_setCell_same _ _ _ _ _ _ (heap_setCell_same _ _ _ _ _ _ HN1.out)]
      have hlen : (n.word ++ Hy.letter s).length = n.word.length + 1 := by simp [Hy.letter]
      unfold r03cells Hy.setDown Hy.setTo Hy.fresh
      simp only [hlen]
      obtain rfl | rfl | rfl : s = 0 ∨ s = 1 ∨ s = 2 := by omega
      all_goals rfl
    have HH1 := Lib.hid hh1; clear hh1
    go_upto_region 7 with fail
    generalize hW1 : (wc.setCell ⟨nb, 1 + s, none⟩ (.int .i64 x)).setCell ⟨nb, 4 + s, none⟩ (.bool true) = W1
    obtain ⟨hb1, hn1⟩ := HH1.out W1 hW1.symm
    have HB2 := Lib.hid hb1; clear hb1
    have hgW : W1.cell? ⟨gb, 3, none⟩ = some (.slice (some ⟨rb, off, none⟩) G.length cap) := ((bcell HB2.out).1 gb 3 hgl).trans hg
    obtain ⟨n', hn'⟩ : ∃ n', n' = Hy.setDown s (Hy.setTo s x (Hy.fresh (n.word ++ Hy.letter s))) := ⟨_, rfl⟩
    rw [← hn'] at hn1
    have z0 := cell_of_heap hn1 0
    have z1 := cell_of_heap hn1 1
    have z2 := cell_of_heap hn1 2
    have z3 := cell_of_heap hn1 3
    have z4 := cell_of_heap hn1 4
    have z5 := cell_of_heap hn1 5
    have z6 := cell_of_heap hn1 6
    have z7 := cell_of_heap hn1 7
    simp [r03cells] at z0 z1 z2 z3 z4 z5 z6 z7
    have HN2 := Lib.hid hn1; clear hn1
    have HN' := Lib.hid hn'; clear hn'
    have hgs1 := HB2.out.size
    have hGl : G.length + 1 ≤ lim := by
      have := cornersL_len HF.out HC.out
      rw [sprout_length] at this
      have := HL.out
      omega
    have hQ := fun ob => ((H.out.heap HB2.out).row.of_heap (W' := (W1.alloc ob).drew) (Below.heap_alloc _ _ _ (by omega)) (by simp [World.drew]))
    have HQ := Lib.hid hQ; clear hQ
    have HNEWS := Lib.hid (fun j u hj => World.news_of_block (w := (W1.alloc (.cells (r03cells n').toArray 194)).drew) (alloc_heap_new W1 _) j u hj)
    have HONE := Lib.hid (one_r03cells n')
    have h63 : G.length + 1 ≤ maxLen := by unfold maxLen; omega
    have H63 := Lib.hid h63; clear h63
    have hby : (G.length + 1) * 56 ≤ 140737488355328 := by omega
    have HBY := Lib.hid hby; clear hby
    obtain ⟨i0, hi0, hzi0, hzi1, hzi2⟩ := info_parts infoNode
    have HI0 := Lib.hid hi0; clear hi0
    clear ct cl cw hga cla cwa c1 f1 c2 f2 hadd
    have hgB : gb < W1.heap.size := by omega
    go_cut [7] (fun y7 wx => y7 = .int .i64 G.length ∧ ∃ rb2 v2, Hid (RG wx o B gb rb2 v2 (G ++ [n'])) ∧ Hid (Only B w wx))
    case first =>
      go_region_law ((refine step_append_queue rfl (.tmp 76) (.tmp 78) 195 rfl (by simp [Act.eval, Act.put]) (HQ.out _) 194 i0 (.agg #[.int .i64 0, .int .i64 0, .int .i64 0, .int .i64 0, .bool false, .bool false, .bool false, .string ⟨#[]⟩]) 56 Tryz.underlying195 HI0.out hzi0 hzi1 hzi2 rfl (by decide) ⟨W1.heap.size, 0, none⟩ 1 1 (r03cells n') (by simp [Act.eval, Act.put]) rfl (by decide) HNEWS.out HONE.out H63.out HBY.out ?_; intro v9 w9 g9 hQ9 hO9 hg9; obtain ⟨off9, cap9, rfl⟩ := hQ9.form; have hh9 : w9.heap[gb]? = some (.cells #[.int .i64 o.m01, .int .i64 o.m12, .int .i64 o.m02, .slice (some ⟨rb, off, none⟩) G.length cap] 197 (0, 0)) := (hO9.block gb (by rintro (h | h); exact hne h; (try simp [World.drew] at h); omega)).trans ((Below.heap_alloc W1 _ gb hgB).trans ((HB2.out.block gb hgl).trans H.out.graph)); have k3 := cell_of_heap hh9 3; have f3 := free_of_heap hh9 3; simp at k3; have HH9 := Lib.hid hh9; clear hh9; have HQ9 := Lib.hid hQ9; clear hQ9; have HO9 := Lib.hid hO9; clear hO9; have HG9 := Lib.hid hg9; clear hg9))
      all_goals go_wp2_with fail
      all_goals go_meet
      all_goals
        have hrep := rep_append H.out HB.out HB2.out hxl HN'.out HH9.out HQ9.out (by simp [World.drew]) HO9.out HG9.out
        exact ⟨rfl, g9, _, hrep.1, hrep.2⟩
    case rest =>
      obtain ⟨rfl, rb2, v2, HR2, HO2⟩ := hcut
      have hrest := r03_step_rest (nb := nb) ho HB.out hs HX.out HY.out HN'.out hlim IH.out HF.out HC.out HL.out HR2.out HO2.out
      simp only [Tryz.f148, Option.getD_some, behind] at hrest
      apply_assumption
      apply hrest
end Go.Proofs.YtfdklmpkienfhaaGreat
