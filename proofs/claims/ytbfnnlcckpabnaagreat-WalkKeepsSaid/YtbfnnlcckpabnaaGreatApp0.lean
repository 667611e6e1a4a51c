import Derived.OwnWalkIn
import Derived.Deep.Onto
import Derived.Test.YtbfnnlcckpabnaaGreatQueue
import Derived.Test.YtbfnnlcckpabnaaGreatKeys
import Derived.Test.YtbfnnlcckpabnaaGreatS5
import Derived.Test.YtbfnnlcckpabnaaGreatWay

/- An append to a row of one's own: the row's block stays, or it is new. Over any program. -/
namespace Go.Proofs.YtbfnnlcckpabnaaGreat
set_option linter.unusedSimpArgs false
set_option linter.unusedVariables false
open Go.RowKit

section
variable {P : Program}

theorem run_append_own2 {w : World} (base : Nat) (t ty e : TypeId) (i : TypeInfo) (z : Value) (size bytes : Nat) (ht : P.underlying t = some (.slice e)) (hi : P.info? e = some i) (hz : i.zero = some z)
    (hsize : i.size = size) (hby : i.bytes = bytes) (hzs : z.cells.size = size) (hsz : 0 < size)
    (v : Value) (n : Nat) (xs : List Value) (hown : w.ownsRow base e size v n xs)
    (a : Addr) (m c : Nat) (news : List Value) (hl : news.length = m * size) (hm : 0 < m) (hnews : ∀ j u, news[j]? = some u → w.cell? (a.add j) = some u) (h1 : ∀ u ∈ news, u.oneCell' = true)
    (h63 : n + m ≤ maxLen) (hbytes : (n + m) * bytes ≤ 140737488355328) (hbase : base ≤ w.heap.size) :
    ∃ v' w', (Builtin.append_ #[t, t] ty #[v, .slice (some a) m c]).run P w = .ok v' w' ∧ w'.ownsRow base e size v' (n + m) (xs ++ news) ∧ w.grownBy w' v.ownBlock ∧
      ∀ k, v'.ownBlock = some k → v.ownBlock = some k ∨ w.heap.size ≤ k := by
  rcases hown.2 with ⟨rfl, rfl⟩ | ⟨g, cap, cur, rfl, hb, hg, h5, h6, h7, h8⟩
  · obtain ⟨v', w', r1, r2, r3, _⟩ := run_append_own (P := P) w w.heap.size t ty e i z size bytes ht hi hz hsize hby hzs hsz (.slice none 0 0) 0 xs ⟨hown.1, .inl ⟨rfl, rfl⟩⟩ a m c news hl hnews h1 h63 hbytes (Nat.le_refl _)
    exact ⟨v', w', r1, r2.mono hbase, r3, fun k hk => .inr (r2.lt k hk).1⟩
  · by_cases hr : n + m ≤ cap
    · obtain ⟨v', w', r1, r2, r3, _⟩ := run_append_own (P := P) w base t ty e i z size bytes ht hi hz hsize hby hzs hsz _ n xs hown a m c news hl hnews h1 h63 hbytes hbase
      subst hsize
      have hin : ∀ j, j < news.length → n * i.size + j < cap * i.size := fun j hj => by
        have : (n + m) * i.size ≤ cap * i.size := Nat.mul_le_mul_right _ hr
        rw [Nat.add_mul] at this
        omega
      have hc : ∀ j, j < news.length → (w.cell? ⟨g, 0 + n * i.size + j, none⟩).isSome = true := fun j hj => by
        have := hin j hj
        rw [cell_of_heap hg, Nat.zero_add]
        simp
        omega
      have hf : ∀ j, j < news.length → w.frozen? ⟨g, 0 + n * i.size + j, none⟩ = false := fun j hj => by
        rw [free_of_heap hg]
      have hrun := run_append_room_cells (P := P) w t ty e i ht hi g 0 n cap a m c news hl hnews h1 hr hc hf
      rw [r1] at hrun
      cases hrun
      exact ⟨_, _, r1, r2, r3, fun k hk => .inl hk⟩
    · obtain ⟨v', w', r1, r2, r3⟩ := run_append_arg_grows (P := P) w t ty e i z size bytes ht hi hz hsize hby hzs hsz ⟨g, 0, none⟩ n cap xs hown.1 (hown.cells rfl) a m c news hl hnews (by omega) h63 hbytes
      exact ⟨v', w', r1, r2.mono hbase, ⟨r3.os, r3.tape, r3.output, r3.size, fun k hk _ => r3.block k hk (by simp)⟩, fun k hk => .inr (r2.lt k hk).1⟩

theorem wpListIn_append_own2 {F : Fence} {n : Nat} (w : World) {ops : Array Oper} {rest : List Oper} {o : Oper} {a : Act} {Q : Exit → Act → World → Prop}
    (hg : o.guard = none) (s x : Operand) (t : TypeId) (hop : o.op = Op.call { callee := Callee.builtin Builtin.append, args := #[s, x], argTypes := #[t, t] })
    (base : Nat) (e : TypeId) (i : TypeInfo) (z : Value) (size bytes : Nat) (h1 : P.underlying t = some (.slice e)) (h2 : P.info? e = some i) (h3 : i.zero = some z) (h4 : i.size = size) (h5 : i.bytes = bytes) (h6 : z.cells.size = size) (h7 : 0 < size)
    (v : Value) (k : Nat) (xs : List Value) (hs : a.eval s = v) (hown : w.ownsRow base e size v k xs) (ad : Addr) (m c : Nat) (news : List Value) (hx : a.eval x = .slice (some ad) m c) (hn : news.length = m * size) (hm : 0 < m)
    (hc : ∀ j u, news[j]? = some u → w.cell? (ad.add j) = some u) (h1c : ∀ u ∈ news, u.oneCell' = true) (b1 : k + m ≤ maxLen) (b2 : (k + m) * bytes ≤ 140737488355328) (b3 : base ≤ w.heap.size)
    (hK : ∀ v' w', w'.ownsRow base e size v' (k + m) (xs ++ news) → w.grownBy w' v.ownBlock → (∀ k, v'.ownBlock = some k → v.ownBlock = some k ∨ w.heap.size ≤ k) → wpListIn F n P ops Q rest (a.put o.dst v') w') :
    wpListIn F n P ops Q (o :: rest) a w := by
  refine wpListIn_plain hg fun K hK' => ?_
  obtain ⟨v', w', hrun, r1, r2, r3⟩ := run_append_own2 (P := P) (w := w) base t o.type e i z size bytes h1 h2 h3 h4 h5 h6 h7 v k xs hown ad m c news hn hm hc h1c b1 b2 b3
  unfold Oper.wpIn
  refine ⟨?_, ?_⟩
  · simp [Oper.about, hop, resolve, Target.leads, Sem.run_pure]
  · rw [Oper.semAt_plain F _ _ (by rw [hop]; intro c hc'; cases hc')]
    simp [execOp, hop, resolve, invoke, builtin, hs, hx, hrun, Result.andThen]
    exact hK' _ _ (hK v' w' r1 r2 r3)
end
end Go.Proofs.YtbfnnlcckpabnaaGreat

/- slices.AppendSeq, slices.Collect of edges. -/
namespace Go.Proofs.YtbfnnlcckpabnaaGreat
set_option linter.unusedSimpArgs false
set_option linter.unusedVariables false
open Go.RowKit

attribute [local go_sem] Oper.semAt_some

theorem infoEdge : (Tryz.prog.info? 64).map (fun i => (i.zero, i.size, i.bytes)) = some (some (.agg #[.string ⟨#[]⟩, .int .i64 0]), 2, 24) := by kernel_rfl

theorem newE {w : World} {x y : Value} {t : TypeId} : ∀ (j : Nat) (u : Value), [x, y][j]? = some u → (w.alloc (.cells #[x, y] t)).cell? ((⟨w.heap.size, 0, none⟩ : Addr).add j) = some u := fun j u hj => by
  have h := alloc_heap_new w (.cells #[x, y] t)
  rcases j with _ | _ | j
  · simp at hj; subst hj; exact cell_of_heap h 0
  · simp at hj; subst hj; exact cell_of_heap h 1
  · simp at hj

theorem snocE {α : Type} {e0 e1 : α → Value} {w' : World} {base : Nat} {e : TypeId} {v' : Value} {L L' : List α} {a : α} (h : w'.ownsRow base e 2 v' (L.length + 1) (flat2 e0 e1 L ++ [e0 a, e1 a])) (hL : L' = L ++ [a]) : w'.ownsRow base e 2 v' L'.length (flat2 e0 e1 L') := by
  subst hL
  rw [List.length_append, flat2_append]
  exact h

/-- A row with its box. -/
structure Boxed2 (W : World) (sb : Nat) (d : List (List UInt8 × Int)) (C : Nat → Prop) (v : Value) : Prop where
  box : W.heap[sb]? = some (.cells #[v] 79)
  row : W.ownsRow (sb + 1) 64 2 v d.length (flat2 encW0 encW1 d)
  foot : ∀ k, C k ↔ (k = sb ∨ v.ownBlock = some k)

theorem row_same {w w' : World} {base : Nat} {e : TypeId} {size : Nat} {v : Value} {n : Nat} {xs : List Value} (h : w.ownsRow base e size v n xs) (hh : ∀ g, v.ownBlock = some g → w'.heap[g]? = w.heap[g]?) : w'.ownsRow base e size v n xs := by
  refine ⟨h.1, ?_⟩
  rcases h.2 with hn | ⟨g, cap, cur, rfl, hb, hgg, rest⟩
  · exact .inl hn
  · exact .inr ⟨g, cap, cur, rfl, hb, (hh g rfl).trans hgg, rest⟩

theorem Boxed2.same {W W' : World} {sb : Nat} {d : List (List UInt8 × Int)} {C : Nat → Prop} {v : Value} (h : Boxed2 W sb d C v) (hh : ∀ k, C k → W'.heap[k]? = W.heap[k]?) : Boxed2 W' sb d C v :=
  ⟨(hh sb ((h.foot sb).2 (.inl rfl))).trans h.box, row_same h.row fun g hg => hh g ((h.foot g).2 (.inr hg)), h.foot⟩

def AppI (ks : List (List UInt8 × Int)) (sb : Nat) (d : List (List UInt8 × Int)) (C : Nat → Prop) (W : World) : Prop := (∃ v, Boxed2 W sb d C v) ∧ d.Nodup ∧ ∀ x ∈ d, x ∈ ks

theorem round_normalL {α : Type} {I : List α → (Nat → Prop) → World → Prop} {Ix : Code → List α → (Nat → Prop) → World → Prop} {i : List α} {x : α} {C : Nat → Prop} {N : Nat} {W W' : World} {a : Act}
    (h : Only (Mine C N) W W' ∧ ∃ C' : Nat → Prop, (∀ k, C' k → Mine C N k ∧ k < W'.heap.size) ∧ I (i ++ [x]) C' W') : roundPostCL I Ix i x C N W .normal a W' := h

set_option maxRecDepth 100000 in
set_option maxHeartbeats 4000000 in
theorem appendSeqE {w : World} {g : FuncId} {lb : Array Value} {ks : List (List UInt8 × Int)} {Own : Nat → Prop} (eg : ∀ args w, (callFunc g args).run Tryz.prog w = .ok (.enter g args) w)
    (hseq : IterL Tryz.prog g lb (fun k => #[encEdge k]) ks Own w) (hOwn : ∀ k, Own k → k < w.heap.size) (hl : ks.length ≤ 1000) :
    Calls Tryz.prog 97 #[.slice none 0 0, .func (.func g) #[] lb] w fun e w' => ∃ v d, e = .returned v ∧ d.Perm ks ∧ w'.ownsRow w.heap.size 64 2 v d.length (flat2 encW0 encW1 d) ∧ Below w.heap.size w w' := by
  obtain ⟨i0, hi0, hzi0, hzi1, hzi2⟩ := info_parts infoEdge
  have HI0 := Lib.hid hi0
  have HSEQ := Lib.hid hseq; have HOWN := Lib.hid hOwn; have HL := Lib.hid hl; have EG := Lib.hid eg
  clear hi0 hseq hOwn hl eg
  refine calls_of_marks Tryz.func97 rfl ?_
  simp only [Tryz.ntmps97, List.size_toArray, List.length_cons, List.length_nil, Nat.reduceAdd, Nat.reduceSub, Array.replicate_succ, Array.replicate_zero, List.push_toArray, List.append_toArray, List.nil_append, List.cons_append]
  go_wp2_with fail
  obtain ⟨W0, hW0⟩ : ∃ W0, w.alloc (.cells #[.slice none 0 0] 79) = W0 := ⟨_, rfl⟩
  rw [hW0]
  have hbox : W0.heap[w.heap.size]? = some (.cells #[.slice none 0 0] 79) := by rw [← hW0]; exact alloc_heap_new w _
  have hs0 : W0.heap.size = w.heap.size + 1 := by rw [← hW0]; simp
  have hold0 : ∀ k, k < w.heap.size → W0.heap[k]? = w.heap[k]? := fun k hk => by rw [← hW0]; exact Below.heap_alloc _ _ _ hk
  have hB0 : Below w.heap.size w W0 := by rw [← hW0]; exact (Below.refl _ _).alloc (Nat.le_refl _) _
  clear hW0
  refine wp_rangeL (gf := g) (lb := lb) rfl EG.out (encs := fun k => #[encEdge k]) (xs := ks) HSEQ.out (by omega) (fun _ => rfl) (AppI ks w.heap.size) (fun _ _ _ _ => False) ?_ ?_ (fun k => k = w.heap.size) ?_ ?_ ?_ ?_ ?_ ?_
  · rintro d C W' W'' ⟨⟨v, h1⟩, h2⟩ hs _
    exact ⟨⟨v, h1.same fun k hk => hs k (.inl hk)⟩, h2⟩
  · rintro c d C W' W'' h
    exact h.elim
  · rintro k rfl; omega
  · intro k hk
    have := HOWN.out k hk
    exact ⟨this, hold0 k this, by omega⟩
  · exact ⟨⟨.slice none 0 0, hbox, World.ownsRow_nil _ _ _ _, fun k => by simp [Value.ownBlock]⟩, List.nodup_nil, fun x hx => by cases hx⟩
  · intro l d C x W' hx hI hC hsz hCl hlW _
    obtain ⟨⟨v, hbx⟩, hnd, hsub⟩ := hI
    obtain ⟨xt, xm⟩ := x
    have hdl : d.length + 1 ≤ 1000 := by
      have h1 : (d ++ [(xt, xm)]).Nodup := by
        rw [List.nodup_append]
        exact ⟨hnd, by simp, fun a ha b hb => by rw [List.mem_singleton.1 hb]; rintro rfl; exact hx.2 ha⟩
      have h2 := h1.length_le_of_subset (l₂ := ks) (fun y hy => by
        rcases List.mem_append.1 hy with hy | hy
        · exact hsub y hy
        · rw [List.mem_singleton.1 hy]; exact hx.1)
      have := HL.out
      simp at h2
      omega
    have HBX := Lib.hid hbx; have HND := Lib.hid hnd; have HSUB := Lib.hid hsub; have HX := Lib.hid hx; have HC := Lib.hid hC; have HCL := Lib.hid hCl
    clear hbx hnd hsub hx hC hCl
    simp only [encEdge, List.zip_toArray, List.zip_cons_cons, List.zip_nil_left, List.size_toArray, List.foldl_toArray, List.foldl_cons, List.foldl_nil, List.setIfInBounds_toArray, List.set_cons_succ, List.set_cons_zero]
    gi_wp2_with fail
    refine ⟨(Only.refl _ _).alloc (fun k hk => .inr hk) _, ?_⟩
    intro W2 hsz2 hk2
    have hsb : C w.heap.size := (HBX.out.foot _).2 (.inl rfl)
    have hnl : ∀ k, C k → k ≠ l ∧ k < W'.heap.size := fun k hk => ⟨fun e => HCL.out (e ▸ hk), HC.out k hk⟩
    have hkeep : ∀ k, C k → W2.heap[k]? = W'.heap[k]? := fun k hk => (hk2 k (hnl k hk).1).trans (Below.heap_alloc _ _ _ (hnl k hk).2)
    have hbx2 := HBX.out.same hkeep
    have hpb : W2.heap[W'.heap.size]? = some (.cells #[.string ⟨xt.toArray⟩, .int .i64 xm] 64) := (hk2 _ (by omega)).trans (World.alloc_heap_new W' _)
    have hsz3 : W2.heap.size = W'.heap.size + 1 := by simpa using hsz2
    obtain ⟨vp, vc, rfl⟩ := ownsRow_form hbx2.row
    have b0 := cell_of_heap hbx2.box 0
    have fb := free_of_heap hbx2.box 0
    have p0 := cell_of_heap hpb 0
    have p1 := cell_of_heap hpb 1
    simp only [List.getElem?_toArray, List.getElem?_cons_zero, List.getElem?_cons_succ] at b0 p0 p1
    have HNL := Lib.hid hnl; have HKEEP := Lib.hid hkeep; have HBX2 := Lib.hid hbx2; have HSZ := Lib.hid hsz3
    clear hnl hkeep hbx2 hpb hsz3 hsz2 hk2
    have hsl : w.heap.size < W2.heap.size := by have := HSZ.out; omega
    have cba : ∀ ob : Obj, (W2.alloc ob).cell? ⟨w.heap.size, 0, none⟩ = some (.slice vp d.length vc) := fun ob => (World.cell?_alloc_lt W2 ob _ hsl).trans b0
    gi_wp2_with (gi_at_builtin; refine wpListIn_append_own2 _ rfl _ _ 79 rfl (w.heap.size + 1) 64 i0 (.agg #[.string ⟨#[]⟩, .int .i64 0]) 2 24 Tryz.underlying79 HI0.out hzi0 hzi1 hzi2 rfl (by decide) _ _ _ rfl (HBX2.out.row.alloc _) ⟨W2.heap.size, 0, none⟩ 1 1 [encW0 (xt, xm), encW1 (xt, xm)] rfl rfl (by decide) newE ?c2 ?c3 ?c4 ?c5 ?_)
    case c2 => intro u hu; simp at hu; rcases hu with rfl | rfl <;> rfl
    case c3 => unfold maxLen; omega
    case c4 => omega
    case c5 => simp; omega
    intro v' w3 hown' hgrow hblk
    obtain ⟨qp, qc, rfl⟩ := ownsRow_form hown'
    have hne : some w.heap.size ≠ (Value.slice vp d.length vc).ownBlock := fun hh => by
      have := (HBX2.out.row.lt _ hh.symm).1
      omega
    have hbox3 : w3.heap[w.heap.size]? = some (.cells #[.slice vp d.length vc] 79) := (hgrow.block _ (by simp; omega) hne).trans ((Below.heap_alloc _ _ _ hsl).trans HBX2.out.box)
    have b3 := cell_of_heap hbox3 0
    have f3 := free_of_heap hbox3 0
    simp only [List.getElem?_toArray, List.getElem?_cons_zero] at b3
    have HGR := Lib.hid hgrow; have HBLK := Lib.hid hblk; have HOWN' := Lib.hid (snocE (a := (xt, xm)) (L' := d ++ [(xt, xm)]) hown' rfl); have HBOX3 := Lib.hid hbox3
    clear hgrow hblk hown' hbox3 hne cba
    gi_wp2_with fail
    refine round_normalL ?_
    have hsz := HSZ.out
    have hO3 : Only (Mine C W'.heap.size) W2 w3 := by
      have hg := HGR.out
      refine ((Only.refl _ W2).alloc (fun k hk => .inr (by omega)) _).trans ⟨hg.os, hg.tape, hg.output, hg.size, fun k hk => ?_⟩
      have hk1 : ¬ C k := fun h => hk (.inl h)
      have hk2 : k < W'.heap.size := Decidable.byContradiction fun h => hk (.inr (by omega))
      exact hg.block k (by simp; omega) (fun hh => hk1 ((HBX2.out.foot k).2 (.inr hh.symm)))
    have hO4 : Only (Mine C W'.heap.size) W2 (w3.setCell ⟨w.heap.size, 0, none⟩ (.slice qp (d.length + 1) qc)) := hO3.setCell (p := ⟨w.heap.size, 0, none⟩) (.inl hsb) _
    have hrow := HOWN'.out
    have hrl : (d ++ [(xt, xm)]).length = d.length + 1 := by simp
    refine ⟨hO4, fun k => k = w.heap.size ∨ (Value.slice qp (d.length + 1) qc).ownBlock = some k, ?_, ⟨_, ?_, ?_, fun k => Iff.rfl⟩, ?_, ?_⟩
    · rintro k (rfl | hk)
      · exact ⟨.inl hsb, Nat.lt_of_lt_of_le hsl hO4.size⟩
      · have hlt := (hrow.lt k hk).2
        refine ⟨?_, by simpa using hlt⟩
        rcases HBLK.out k hk with h | h
        · exact .inl ((HBX2.out.foot k).2 (.inr h))
        · exact .inr (by first | omega | (simp at h; omega))
    · exact heap_setCell_same _ _ _ _ _ _ HBOX3.out
    · rw [hrl] at hrow ⊢
      refine row_same hrow fun g' hg' => Below.heap_setCell _ _ _ _ ?_
      have := (hrow.lt g' hg').1
      show g' ≠ w.heap.size
      omega
    · rw [List.nodup_append]
      exact ⟨HND.out, by simp, fun a ha b hb => by rw [List.mem_singleton.1 hb]; rintro rfl; exact HX.out.2 ha⟩
    · intro y hy
      rcases List.mem_append.1 hy with hy | hy
      · exact HSUB.out y hy
      · rw [List.mem_singleton.1 hy]; exact HX.out.1
  · intro D d C W' hD hperm hI hO hK
    obtain ⟨⟨v, hbx⟩, hnd, hsub⟩ := hI
    obtain ⟨vp, vc, rfl⟩ := ownsRow_form hbx.row
    have b0 := cell_of_heap hbx.box 0
    simp only [List.getElem?_toArray, List.getElem?_cons_zero] at b0
    have HBX := Lib.hid hbx; have HO := Lib.hid hO; have HP := Lib.hid hperm; have HK := Lib.hid hK
    clear hbx hnd hsub hO hperm hK
    simp only [Exit.inBlock, Exit.then]
    go_wp2_with fail
    refine post_marks1 rfl HK.out (v := .slice vp d.length vc) (by simp [results, Tryz.results97, go_sem]) ?_
    have hO := HO.out.putObj (b := D) (.inr hD) (.deferred none)
    refine ⟨_, d, rfl, HP.out, (row_same HBX.out.row fun g' hg' => World.putObj_heap_other ?_).mono (by omega), hB0.trans (hO.below (fun k hk => by rcases hk with h | h <;> omega))⟩
    · rintro rfl
      obtain ⟨cur, h1, _⟩ := row_block HBX.out.row hg'
      rw [HK.out] at h1
      cases h1
  · rintro D d c C W' _ h
    exact h.elim
end Go.Proofs.YtbfnnlcckpabnaaGreat

/- slices.AppendSeq of strings. -/
namespace Go.Proofs.YtbfnnlcckpabnaaGreat
set_option linter.unusedSimpArgs false
set_option linter.unusedVariables false
open Go.RowKit

attribute [local go_sem] Oper.semAt_some

/-- A row with its box. -/
structure Boxed1 (W : World) (sb : Nat) (d : List (List UInt8)) (C : Nat → Prop) (v : Value) : Prop where
  box : W.heap[sb]? = some (.cells #[v] 81)
  row : W.ownsRow (sb + 1) 9 1 v d.length (d.map str)
  foot : ∀ k, C k ↔ (k = sb ∨ v.ownBlock = some k)

theorem Boxed1.same {W W' : World} {sb : Nat} {d : List (List UInt8)} {C : Nat → Prop} {v : Value} (h : Boxed1 W sb d C v) (hh : ∀ k, C k → W'.heap[k]? = W.heap[k]?) : Boxed1 W' sb d C v :=
  ⟨(hh sb ((h.foot sb).2 (.inl rfl))).trans h.box, row_same h.row fun g hg => hh g ((h.foot g).2 (.inr hg)), h.foot⟩

theorem newS {w : World} {x : Value} {t : TypeId} : ∀ (j : Nat) (u : Value), [x][j]? = some u → (w.alloc (.cells #[x] t)).cell? ((⟨w.heap.size, 0, none⟩ : Addr).add j) = some u := fun j u hj => by
  have h := alloc_heap_new w (.cells #[x] t)
  rcases j with _ | j
  · simp at hj; subst hj; exact cell_of_heap h 0
  · simp at hj

theorem snocS {w' : World} {base : Nat} {e : TypeId} {v' : Value} {L L' : List (List UInt8)} {a : List UInt8} (h : w'.ownsRow base e 1 v' (L.length + 1) (L.map str ++ [str a])) (hL : L' = L ++ [a]) : w'.ownsRow base e 1 v' L'.length (L'.map str) := by
  subst hL
  rw [List.length_append, List.map_append]
  exact h

def AppIS (ks : List (List UInt8)) (sb : Nat) (d : List (List UInt8)) (C : Nat → Prop) (W : World) : Prop := (∃ v, Boxed1 W sb d C v) ∧ d.Nodup ∧ ∀ x ∈ d, x ∈ ks

set_option maxRecDepth 100000 in
set_option maxHeartbeats 4000000 in
theorem appendSeqS {w : World} {g : FuncId} {lb : Array Value} {ks : List (List UInt8)} {Own : Nat → Prop} (eg : ∀ args w, (callFunc g args).run Tryz.prog w = .ok (.enter g args) w)
    (hseq : IterL Tryz.prog g lb (fun k => #[str k]) ks Own w) (hOwn : ∀ k, Own k → k < w.heap.size) (hl : ks.length ≤ 1000) :
    Calls Tryz.prog 100 #[.slice none 0 0, .func (.func g) #[] lb] w fun e w' => ∃ (v : Value) (d : List (List UInt8)), e = .returned v ∧ d.Perm ks ∧ w'.ownsRow w.heap.size 9 1 v d.length (d.map str) ∧ Below w.heap.size w w' := by
  obtain ⟨i0, hi0, hzi0, hzi1, hzi2⟩ := info_parts infoStr
  have HI0 := Lib.hid hi0
  have HSEQ := Lib.hid hseq; have HOWN := Lib.hid hOwn; have HL := Lib.hid hl; have EG := Lib.hid eg
  clear hi0 hseq hOwn hl eg
  refine calls_of_marks Tryz.func100 rfl ?_
  simp only [Tryz.ntmps100, List.size_toArray, List.length_cons, List.length_nil, Nat.reduceAdd, Nat.reduceSub, Array.replicate_succ, Array.replicate_zero, List.push_toArray, List.append_toArray, List.nil_append, List.cons_append]
  go_wp2_with fail
  obtain ⟨W0, hW0⟩ : ∃ W0, w.alloc (.cells #[.slice none 0 0] 81) = W0 := ⟨_, rfl⟩
  rw [hW0]
  have hbox : W0.heap[w.heap.size]? = some (.cells #[.slice none 0 0] 81) := by rw [← hW0]; exact alloc_heap_new w _
  have hs0 : W0.heap.size = w.heap.size + 1 := by rw [← hW0]; simp
  have hold0 : ∀ k, k < w.heap.size → W0.heap[k]? = w.heap[k]? := fun k hk => by rw [← hW0]; exact Below.heap_alloc _ _ _ hk
  have hB0 : Below w.heap.size w W0 := by rw [← hW0]; exact (Below.refl _ _).alloc (Nat.le_refl _) _
  clear hW0
  refine wp_rangeL (gf := g) (lb := lb) rfl EG.out (encs := fun k => #[str k]) (xs := ks) HSEQ.out (by omega) (fun _ => rfl) (AppIS ks w.heap.size) (fun _ _ _ _ => False) ?_ ?_ (fun k => k = w.heap.size) ?_ ?_ ?_ ?_ ?_ ?_
  · rintro d C W' W'' ⟨⟨v, h1⟩, h2⟩ hs _
    exact ⟨⟨v, h1.same fun k hk => hs k (.inl hk)⟩, h2⟩
  · rintro c d C W' W'' h
    exact h.elim
  · rintro k rfl; omega
  · intro k hk
    have := HOWN.out k hk
    exact ⟨this, hold0 k this, by omega⟩
  · exact ⟨⟨.slice none 0 0, hbox, World.ownsRow_nil _ _ _ _, fun k => by simp [Value.ownBlock]⟩, List.nodup_nil, fun x hx => by cases hx⟩
  · intro l d C x W' hx hI hC hsz hCl hlW _
    obtain ⟨⟨v, hbx⟩, hnd, hsub⟩ := hI
    have hdl : d.length + 1 ≤ 1000 := by
      have h1 : (d ++ [x]).Nodup := by
        rw [List.nodup_append]
        exact ⟨hnd, by simp, fun a ha b hb => by rw [List.mem_singleton.1 hb]; rintro rfl; exact hx.2 ha⟩
      have h2 := h1.length_le_of_subset (l₂ := ks) (fun y hy => by
        rcases List.mem_append.1 hy with hy | hy
        · exact hsub y hy
        · rw [List.mem_singleton.1 hy]; exact hx.1)
      have := HL.out
      simp at h2
      omega
    have HBX := Lib.hid hbx; have HND := Lib.hid hnd; have HSUB := Lib.hid hsub; have HX := Lib.hid hx; have HC := Lib.hid hC; have HCL := Lib.hid hCl
    clear hbx hnd hsub hx hC hCl
    simp only [str, List.zip_toArray, List.zip_cons_cons, List.zip_nil_left, List.size_toArray, List.foldl_toArray, List.foldl_cons, List.foldl_nil, List.setIfInBounds_toArray, List.set_cons_succ, List.set_cons_zero]
    gi_wp2_with fail
    refine ⟨Only.refl _ _, ?_⟩
    intro W2 hsz2 hk2
    have hsb : C w.heap.size := (HBX.out.foot _).2 (.inl rfl)
    have hnl : ∀ k, C k → k ≠ l ∧ k < W'.heap.size := fun k hk => ⟨fun e => HCL.out (e ▸ hk), HC.out k hk⟩
    have hkeep : ∀ k, C k → W2.heap[k]? = W'.heap[k]? := fun k hk => hk2 k (hnl k hk).1
    have hbx2 := HBX.out.same hkeep
    have hsz3 : W2.heap.size = W'.heap.size := hsz2
    obtain ⟨vp, vc, rfl⟩ := ownsRow_form hbx2.row
    have b0 := cell_of_heap hbx2.box 0
    have fb := free_of_heap hbx2.box 0
    simp only [List.getElem?_toArray, List.getElem?_cons_zero, List.getElem?_cons_succ] at b0
    have HNL := Lib.hid hnl; have HKEEP := Lib.hid hkeep; have HBX2 := Lib.hid hbx2; have HSZ := Lib.hid hsz3
    clear hnl hkeep hbx2 hsz3 hsz2 hk2
    have hsl : w.heap.size < W2.heap.size := by have := HSZ.out; omega
    have cba : ∀ ob : Obj, (W2.alloc ob).cell? ⟨w.heap.size, 0, none⟩ = some (.slice vp d.length vc) := fun ob => (World.cell?_alloc_lt W2 ob _ hsl).trans b0
    gi_wp2_with (gi_at_builtin; refine wpListIn_append_own2 _ rfl _ _ 81 rfl (w.heap.size + 1) 9 i0 (.string ⟨#[]⟩) 1 16 Tryz.underlying81 HI0.out hzi0 hzi1 hzi2 rfl (by decide) _ _ _ rfl (HBX2.out.row.alloc _) ⟨W2.heap.size, 0, none⟩ 1 1 [str x] rfl rfl (by decide) newS ?c2 ?c3 ?c4 ?c5 ?_)
    case c2 => intro u hu; simp at hu; subst hu; rfl
    case c3 => unfold maxLen; omega
    case c4 => omega
    case c5 => simp; omega
    intro v' w3 hown' hgrow hblk
    obtain ⟨qp, qc, rfl⟩ := ownsRow_form hown'
    have hne : some w.heap.size ≠ (Value.slice vp d.length vc).ownBlock := fun hh => by
      have := (HBX2.out.row.lt _ hh.symm).1
      omega
    have hbox3 : w3.heap[w.heap.size]? = some (.cells #[.slice vp d.length vc] 81) := (hgrow.block _ (by simp; omega) hne).trans ((Below.heap_alloc _ _ _ hsl).trans HBX2.out.box)
    have b3 := cell_of_heap hbox3 0
    have f3 := free_of_heap hbox3 0
    simp only [List.getElem?_toArray, List.getElem?_cons_zero] at b3
    have HGR := Lib.hid hgrow; have HBLK := Lib.hid hblk; have HOWN' := Lib.hid (snocS (a := x) (L' := d ++ [x]) hown' rfl); have HBOX3 := Lib.hid hbox3
    clear hgrow hblk hown' hbox3 hne cba
    gi_wp2_with fail
    refine round_normalL ?_
    have hsz := HSZ.out
    have hO3 : Only (Mine C W'.heap.size) W2 w3 := by
      have hg := HGR.out
      refine ((Only.refl _ W2).alloc (fun k hk => .inr (by omega)) _).trans ⟨hg.os, hg.tape, hg.output, hg.size, fun k hk => ?_⟩
      have hk1 : ¬ C k := fun h => hk (.inl h)
      have hk2 : k < W'.heap.size := Decidable.byContradiction fun h => hk (.inr (by omega))
      exact hg.block k (by simp; omega) (fun hh => hk1 ((HBX2.out.foot k).2 (.inr hh.symm)))
    have hO4 : Only (Mine C W'.heap.size) W2 (w3.setCell ⟨w.heap.size, 0, none⟩ (.slice qp (d.length + 1) qc)) := hO3.setCell (p := ⟨w.heap.size, 0, none⟩) (.inl hsb) _
    have hrow := HOWN'.out
    have hrl : (d ++ [x]).length = d.length + 1 := by simp
    refine ⟨hO4, fun k => k = w.heap.size ∨ (Value.slice qp (d.length + 1) qc).ownBlock = some k, ?_, ⟨_, ?_, ?_, fun k => Iff.rfl⟩, ?_, ?_⟩
    · rintro k (rfl | hk)
      · exact ⟨.inl hsb, Nat.lt_of_lt_of_le hsl hO4.size⟩
      · have hlt := (hrow.lt k hk).2
        refine ⟨?_, by simpa using hlt⟩
        rcases HBLK.out k hk with h | h
        · exact .inl ((HBX2.out.foot k).2 (.inr h))
        · exact .inr (by first | omega | (simp at h; omega))
    · exact heap_setCell_same _ _ _ _ _ _ HBOX3.out
    · rw [hrl] at hrow ⊢
      refine row_same hrow fun g' hg' => Below.heap_setCell _ _ _ _ ?_
      have := (hrow.lt g' hg').1
      show g' ≠ w.heap.size
      omega
    · rw [List.nodup_append]
      exact ⟨HND.out, by simp, fun a ha b hb => by rw [List.mem_singleton.1 hb]; rintro rfl; exact HX.out.2 ha⟩
    · intro y hy
      rcases List.mem_append.1 hy with hy | hy
      · exact HSUB.out y hy
      · rw [List.mem_singleton.1 hy]; exact HX.out.1
  · intro D d C W' hD hperm hI hO hK
    obtain ⟨⟨v, hbx⟩, hnd, hsub⟩ := hI
    obtain ⟨vp, vc, rfl⟩ := ownsRow_form hbx.row
    have b0 := cell_of_heap hbx.box 0
    simp only [List.getElem?_toArray, List.getElem?_cons_zero] at b0
    have HBX := Lib.hid hbx; have HO := Lib.hid hO; have HP := Lib.hid hperm; have HK := Lib.hid hK
    clear hbx hnd hsub hO hperm hK
    simp only [Exit.inBlock, Exit.then]
    go_wp2_with fail
    refine post_marks1 rfl HK.out (v := .slice vp d.length vc) (by simp [results, Tryz.results100, go_sem]) ?_
    have hO := HO.out.putObj (b := D) (.inr hD) (.deferred none)
    refine ⟨_, d, rfl, HP.out, (row_same HBX.out.row fun g' hg' => World.putObj_heap_other ?_).mono (by omega), hB0.trans (hO.below (fun k hk => by rcases hk with h | h <;> omega))⟩
    · rintro rfl
      obtain ⟨cur, h1, _⟩ := row_block HBX.out.row hg'
      rw [HK.out] at h1
      cases h1
  · rintro D d c C W' _ h
    exact h.elim
end Go.Proofs.YtbfnnlcckpabnaaGreat
