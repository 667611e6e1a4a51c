/- Package cover: the tiles of an action. -/
import Derived.Test.YtfdklmpkienfhaaGreatK14
import Derived.Test.YtfdklmpkienfhaaGreatPln
import Derived.Test.YtfdklmpkienfhaaGreatIso
import Derived.LoopIn
import Derived.LaidEqlPtr
namespace Go.Proofs.YtfdklmpkienfhaaGreat
set_option linter.unusedSimpArgs false
set_option linter.unusedVariables false
open Go.RowKit
open Cov (Fnd fst fnd TilesAt W pairs1 pairsR pairsT)

theorem GRep.to {w w' : World} {o : Hy.Ord} {B B' : Nat → Prop} {pb : Nat} {bs : Nat → Nat} {G : List Hy.Node} (h : GRep w o B pb bs G) (hp : w'.heap[pb]? = w.heap[pb]?) (hb : ∀ i, i < G.length → w'.heap[bs i]? = w.heap[bs i]?) (hB : ∀ i, i < G.length → B' (bs i)) : GRep w' o B' pb bs G :=
  ⟨hp.trans h.plane, fun i n hi => (hb i (List.getElem?_eq_some_iff.1 hi).1).trans (h.node i n hi), h.inj, h.ne, hB, h.closed⟩

theorem rowTile : RowType Tryz.prog 226 228 1 := rowType_of (z := .pointer none) Tryz.underlying226 (bytes := 8) (by kernel_rfl) rfl (by decide) (by decide)
theorem rowPair : RowType Tryz.prog 29 38 4 := rowType_of (z := .agg #[.string ⟨#[]⟩, .int .i64 0, .string ⟨#[]⟩, .int .i64 0]) Tryz.underlying29 (bytes := 48) (by kernel_rfl) rfl (by decide) (by decide)

theorem neq_ptr_same {P : Program} {tp te : TypeId} {j : TypeInfo} (a : Addr) (hp : P.underlying tp = some (.pointer te)) (hte : P.info? te = some j) (w : World) :
    (binOp .neq tp (.pointer (some a)) (.pointer (some a))).run P w = .ok (.bool false) w := by
  have h : ∀ d : Nat, (Op.equalIn (d + 1) tp (.pointer (some a)) (.pointer (some a))).run P w = .ok true w := fun d => by
    simp [Op.equalIn, run_underlying hp, sizeOf, typeInfo, hte, run_sameAddr_same]
  simp only [binOp]
  simp [Op.equal, Op.maxDepth, h 9999]
theorem neq_ptr_other {P : Program} {tp te : TypeId} {j : TypeInfo} {a b : Addr} {ca cb : Array Value} {ta tb : TypeId} (hp : P.underlying tp = some (.pointer te)) (hte : P.info? te = some j) (hsz : j.size ≠ 0) (w : World)
    (hne : a ≠ b) (ha : w.heap[a.block]? = some (.cells ca ta (0, 0))) (hb : w.heap[b.block]? = some (.cells cb tb (0, 0))) :
    (binOp .neq tp (.pointer (some a)) (.pointer (some b))).run P w = .ok (.bool true) w := by
  have h : ∀ d : Nat, (Op.equalIn (d + 1) tp (.pointer (some a)) (.pointer (some b))).run P w = .ok false w := fun d => by
    simp [Op.equalIn, run_underlying hp, sizeOf, typeInfo, hte, hsz, run_sameAddr_other w hne ha hb]
  simp only [binOp]
  simp [Op.equal, Op.maxDepth, h 9999]
theorem infoTile : ∃ j, Tryz.prog.info? 234 = some j ∧ j.size = 7 := by
  obtain ⟨i, a, b, c, d⟩ := info_parts (P := Tryz.prog) (e := 234) (z := .agg #[.string ⟨#[]⟩, .pointer none, .pointer none, .pointer none, .bool false, .bool false, .bool false]) (size := 7) (bytes := 48) (by kernel_rfl)
  exact ⟨i, a, c⟩
theorem tile_neq_same (a : Addr) (w : World) : (binOp .neq 228 (.pointer (some a)) (.pointer (some a))).run Tryz.prog w = .ok (.bool false) w := by
  obtain ⟨j, hj, _⟩ := infoTile
  exact neq_ptr_same a Tryz.underlying228 hj w
theorem tile_neq_other {a b : Addr} {ca cb : Array Value} {ta tb : TypeId} (w : World) (hne : a ≠ b) (ha : w.heap[a.block]? = some (.cells ca ta (0, 0))) (hb : w.heap[b.block]? = some (.cells cb tb (0, 0))) :
    (binOp .neq 228 (.pointer (some a)) (.pointer (some b))).run Tryz.prog w = .ok (.bool true) w := by
  obtain ⟨j, hj, h7⟩ := infoTile
  exact neq_ptr_other Tryz.underlying228 hj (by omega) w hne ha hb

/-- The cells of a pair of edges. -/
def encP (p : (Hy.Word × Nat) × (Hy.Word × Nat)) : List Value := [str p.1.1, .int .i64 (p.1.2 : Int), str p.2.1, .int .i64 (p.2.2 : Int)]
def pairCells (L : List ((Hy.Word × Nat) × (Hy.Word × Nat))) : List Value := L.flatMap encP
/-- The words of the first k points, as values. -/
def wordCells (f : Cov.Fn) (n k : Nat) : List Value := (List.range k).map fun m => str (W f n 0 m)
def tileCells (bs : Nat → Nat) (J : Nat → Nat) (k : Nat) : List Value := (List.range k).map fun m => .pointer (some ⟨bs (J m), 0, none⟩)
theorem wordCells_succ (f : Cov.Fn) (n k : Nat) : wordCells f n (k + 1) = wordCells f n k ++ [str (W f n 0 k)] := by unfold wordCells; rw [List.range_succ, List.map_append]; rfl
theorem tileCells_succ (bs : Nat → Nat) (J : Nat → Nat) (k : Nat) : tileCells bs J (k + 1) = tileCells bs J k ++ [.pointer (some ⟨bs (J k), 0, none⟩)] := by unfold tileCells; rw [List.range_succ, List.map_append]; rfl
theorem tileCells_congr {bs bs' : Nat → Nat} {J J' : Nat → Nat} {k : Nat} (h : ∀ m, m < k → bs (J m) = bs' (J' m)) : tileCells bs J k = tileCells bs' J' k := by
  unfold tileCells
  refine List.map_congr_left fun m hm => ?_
  rw [h m (List.mem_range.1 hm)]
theorem tileCells_at {bs J : Nat → Nat} {k m : Nat} (h : m < k) : (tileCells bs J k)[m]? = some (.pointer (some ⟨bs (J m), 0, none⟩)) := by simp [tileCells, h]

/-- What holds ahead of round k. -/
structure CutI (o : Hy.Ord) (f : Cov.Fn) (n vb lb xb N : Nat) (k : Nat) (C : Nat → Prop) (W0 : World) : Prop where
  low : ∀ x, C x → N ≤ x
  cv : C vb
  cl : C lb
  cx : C xb
  st : ∃ (pb : Nat) (bs : Nat → Nat) (G : List Hy.Node) (J : Nat → Nat) (lv tv : Value), C pb ∧ (pb ≠ vb ∧ pb ≠ lb ∧ pb ≠ xb ∧ lv.ownBlock ≠ some pb ∧ tv.ownBlock ≠ some pb) ∧
    W0.heap[vb]? = some (.cells #[.pointer (some ⟨pb, 0, none⟩)] 139) ∧
    GRep W0 o (fun x => C x ∧ x ≠ vb ∧ x ≠ lb ∧ x ≠ xb ∧ lv.ownBlock ≠ some x ∧ tv.ownBlock ≠ some x) pb bs G ∧ TilesAt o f n G J k ∧
    W0.heap[lb]? = some (.cells #[lv] 226) ∧ GR W0 1 lv k (tileCells bs J k) ∧
    W0.heap[xb]? = some (.cells #[tv, .slice none 0 0] 129) ∧ GR W0 1 tv k (wordCells f n k) ∧
    (∀ b, lv.ownBlock = some b → C b ∧ b ≠ vb ∧ b ≠ lb ∧ b ≠ xb) ∧ (∀ b, tv.ownBlock = some b → C b ∧ b ≠ vb ∧ b ≠ lb ∧ b ≠ xb ∧ lv.ownBlock ≠ some b)
theorem CutI.stable {o : Hy.Ord} {f : Cov.Fn} {n vb lb xb N : Nat} {Own : Nat → Prop} : Stable Own (CutI o f n vb lb xb N) := by
  rintro k C W W' h hs hsz
  obtain ⟨pb, bs, G, J, lv, tv, h1, h2, h3, h4, h5, h6, h7, h8, h9, h10, h11⟩ := h.st
  exact ⟨h.low, h.cv, h.cl, h.cx, pb, bs, G, J, lv, tv, h1, h2, (hs _ (.inl h.cv)).trans h3, h4.to (hs _ (.inl h1)) (fun i hi => hs _ (.inl (h4.lo i hi).1)) (fun i hi => h4.lo i hi), h5, (hs _ (.inl h.cl)).trans h6,
    h7.of_heap (fun b hb => hs b (.inl (h10 b hb).1)) hsz, (hs _ (.inl h.cx)).trans h8, h9.of_heap (fun b hb => hs b (.inl (h11 b hb).1)) hsz, h10, h11⟩

/-- While the pairs are gathered: the first x points, and i letters of the next. -/
structure CutP (o : Hy.Ord) (f : Cov.Fn) (n xb pb : Nat) (tv : Value) (bs9 J : Nat → Nat) (B9 : Nat → Prop) (W9 : World) (x i : Nat) (wr : World) : Prop where
  on : Only B9 W9 wr
  st : ∃ (bs : Nat → Nat) (G : List Hy.Node) (pv : Value) (cnt : Nat), cnt = (pairsT o f n x ++ pairsR o f n x i).length ∧ GRep wr o (fun z => B9 z ∧ z ≠ xb ∧ pv.ownBlock ≠ some z) pb bs G ∧ TilesAt o f n G J n ∧ (∀ m, m < n → bs (J m) = bs9 (J m)) ∧
    wr.heap[xb]? = some (.cells #[tv, pv] 129) ∧ GR wr 4 pv cnt (pairCells (pairsT o f n x ++ pairsR o f n x i)) ∧ ∀ b, pv.ownBlock = some b → W9.heap.size ≤ b

attribute [local go_sem] Oper.semAt_some

set_option maxRecDepth 100000 in
set_option maxHeartbeats 4000000 in
theorem cover_cut (o : Hy.Ord) (F : Hy.Fine o) (hS : Small o) (V : Nat → Value) (A : Nat → List Int) (w : World) (hA : AR w.heap.size w V A) (hs : Shaped A) (hH : Cov.HoldsR o (letters A) (A 0).length) (hT : (Cov.met (letters A) (A 0).length 0).length = (A 0).length) :
    Calls Tryz.prog 74 #[ordersV o.m01 o.m12 o.m02, actV V] w fun e w' => ∃ tv pv, e = .returned (.agg #[tv, pv]) ∧ GR w' 1 tv (A 0).length (wordCells (letters A) (A 0).length (A 0).length) ∧ GR w' 4 pv (pairsT o (letters A) (A 0).length (A 0).length).length (pairCells (pairsT o (letters A) (A 0).length (A 0).length)) ∧ Below w.heap.size w w' ∧ (∀ b, tv.ownBlock = some b → w.heap.size ≤ b) ∧ (∀ b, pv.ownBlock = some b → w.heap.size ≤ b) := by
  have HMET := Lib.hid (fun W => cover_met V 0 W)
  have HIT := Lib.hid (fun (W : World) (hN : w.heap.size ≤ W.heap.size) hW0 ab pb => met_iter (w := W) (W0 := w) (p := 0) hA hs hN hW0 hs.1.1 ab pb)
  have HNEW := Lib.hid (fun W => grow_New o W)
  have HSTEP := Lib.hid (fun (B : Nat → Prop) (pb : Nat) => grow_step hS (B := B) (pb := pb) 1000)
  obtain ⟨n, hn⟩ : ∃ n, n = (A 0).length := ⟨_, rfl⟩
  obtain ⟨f, hf⟩ : ∃ f, f = letters A := ⟨_, rfl⟩
  rw [← hf, ← hn] at HIT hH hT ⊢
  have HNN := Lib.hid (show 1 ≤ n ∧ n ≤ 200 from by rw [hn]; exact ⟨hs.1.1, hs.1.2.1⟩)
  have HIN := Lib.hid (show Cov.Into f n from by rw [hf, hn]; exact hs.into)
  have HH := Lib.hid hH
  have HTT := Lib.hid hT
  obtain ⟨hs1, hB1, q0, q1, q2⟩ := alloc3 w (.cells #[.int .i64 o.m01, .int .i64 o.m12, .int .i64 o.m02] 23) (.cells #[V 0, V 1, V 2] 27) (.cells #[.slice none 0 0, .slice none 0 0] 129)
  obtain ⟨W1, hW1⟩ : ∃ W1, W1 = ((w.alloc (.cells #[.int .i64 o.m01, .int .i64 o.m12, .int .i64 o.m02] 23)).alloc (.cells #[V 0, V 1, V 2] 27)).alloc (.cells #[.slice none 0 0, .slice none 0 0] 129) := ⟨_, rfl⟩
  rw [← hW1] at hs1 hB1 q0 q1 q2
  have HQ0 := Lib.hid q0; have HQ1 := Lib.hid q1; have HQ2 := Lib.hid q2
  have HS1 := Lib.hid hs1; have HB1 := Lib.hid hB1
  have HA := Lib.hid hA
  have HSH := Lib.hid hs
  have HNF := Lib.hid (And.intro hn hf)
  clear q0 q1 q2 hs1 hB1 hA hs hn hf hH hT
  unfold ordersV actV at *
  refine calls_of_marks Tryz.func74 rfl ?_
  simp only [Tryz.ntmps74, List.size_toArray, List.length_cons, List.length_nil, Nat.reduceAdd, Nat.reduceSub, Array.replicate_succ, Array.replicate_zero, List.push_toArray, List.append_toArray, List.nil_append, List.cons_append]
  go_upto_region 1 with fail
  rw [← hW1]
  clear hW1
  have k0 := cell_of_heap HQ0.out 0
  have k1 := cell_of_heap HQ0.out 1
  have k2 := cell_of_heap HQ0.out 2
  simp only [List.getElem?_toArray, List.getElem?_cons_zero, List.getElem?_cons_succ] at k0 k1 k2
  go_wp2_with fail
  refine (HNEW.out _).mono ?_
  rintro e w2 ⟨pb, bs, rfl, hG, hpb, hB⟩
  have HG2 := Lib.hid hG; have HB2 := Lib.hid hB
  have HPB := Lib.hid hpb
  clear hG hB hpb k0 k1 k2
  go_upto_region 4 with fail
  obtain ⟨hs3, hB3, q0, q1, q2⟩ := alloc3 w2 (.cells #[.pointer (some ⟨pb, 0, none⟩)] 139) (.cells #[.slice none 0 0] 226) (.cells #[.slice none 0 0, .slice none 0 0] 129)
  obtain ⟨W3, hW3⟩ : ∃ W3, W3 = ((w2.alloc (.cells #[.pointer (some ⟨pb, 0, none⟩)] 139)).alloc (.cells #[.slice none 0 0] 226)).alloc (.cells #[.slice none 0 0, .slice none 0 0] 129) := ⟨_, rfl⟩
  rw [← hW3] at hs3 hB3 q0 q1 q2
  have HP0 := Lib.hid q0; have HP1 := Lib.hid q1; have HP2 := Lib.hid q2
  have HS3 := Lib.hid hs3; have HB3 := Lib.hid hB3
  rw [← hW3]
  clear q0 q1 q2 hs3 hB3 hW3
  have HBW := Lib.hid (show Below w.heap.size w W3 from (HB1.out.trans (HB2.out.mono HB1.out.size)).trans (HB3.out.mono (Nat.le_trans HB1.out.size HB2.out.size)))
  have HQ31 := Lib.hid (show W3.heap[w.heap.size + 1]? = some (.cells #[V 0, V 1, V 2] 27) from by
    have h1 := HS1.out
    have h2 := HB2.out.size
    exact (HB3.out.block _ (by omega)).trans ((HB2.out.block _ (by omega)).trans HQ1.out))
  have HQ32 := Lib.hid (show W3.heap[w.heap.size + 1 + 1]? = some (.cells #[.slice none 0 0, .slice none 0 0] 129) from by
    have h1 := HS1.out
    have h2 := HB2.out.size
    exact (HB3.out.block _ (by omega)).trans ((HB2.out.block _ (by omega)).trans HQ2.out))
  have k0 := box_at HQ31.out (i := 0) (by omega)
  have k1 := box_at HQ31.out (i := 1) (by omega)
  have k2 := box_at HQ31.out (i := 2) (by omega)
  go_wp2_with fail
  refine (HMET.out _).mono ?_
  rintro e w4 ⟨rfl, hB4, hsz4, hab, hpb⟩
  have HB4 := Lib.hid hB4
  have HSZ4 := Lib.hid hsz4
  have HIT4 := Lib.hid (HIT.out w4 (Nat.le_trans HBW.out.size hB4.size) (fun k hk => (hB4.block k (Nat.lt_of_lt_of_le hk HBW.out.size)).trans (HBW.out.block k hk)) _ _ hab hpb)
  clear hB4 hsz4 hab hpb k0 k1 k2 HIT HMET
  go_wp2_with fail
  obtain ⟨vb, hvb⟩ : ∃ vb, vb = w2.heap.size := ⟨_, rfl⟩
  have HZ := Lib.hid (show w.heap.size + 3 ≤ pb ∧ pb < vb ∧ w.heap.size + 3 ≤ vb ∧ W3.heap.size = vb + 3 ∧ w4.heap.size = W3.heap.size + 2 from by
    have h1 := HS1.out
    have h2 := HS3.out
    have h3 := HSZ4.out
    have h4 := (Array.getElem?_eq_some_iff.1 HG2.out.plane).1
    have h5 := HPB.out
    have h6 := HB2.out.size
    omega)
  have HVB := Lib.hid hvb
  rw [← hvb] at HP0 HP1 HP2 ⊢
  clear hvb
  obtain ⟨lb, hlb⟩ : ∃ lb, lb = vb + 1 := ⟨_, rfl⟩
  rw [← hlb] at HP1 ⊢
  obtain ⟨xb, hxb⟩ : ∃ xb, xb = lb + 1 := ⟨_, rfl⟩
  rw [← hxb] at ⊢
  have HP2 := Lib.hid (show W3.heap[xb]? = some (.cells #[.slice none 0 0, .slice none 0 0] 129) from by rw [hxb, hlb]; exact HP2.out)
  have HLB := Lib.hid (And.intro hlb hxb)
  clear hlb hxb
  have HX := Lib.hid (show ∀ (i : Nat) x, (fndX f n 0)[i]? = some x → x.1 = i ∧ i < n ∧ (fnd f n 0)[i]? = some x.2 from fun i x hx => by
    rw [fndX_at] at hx
    obtain ⟨e, he, rfl⟩ := Option.map_eq_some_iff.1 hx
    refine ⟨rfl, ?_, he⟩
    have := (List.getElem?_eq_some_iff.1 he).1
    rw [Cov.met_length, HTT.out] at this
    exact this)
  have HXL := Lib.hid (show (fndX f n 0).length = n from by rw [fndX_len, Cov.met_length, HTT.out])
  refine wp_range (gf := 156) (lb := #[.pointer (some ⟨W3.heap.size, 0, none⟩), .pointer (some ⟨W3.heap.size + 1, 0, none⟩)]) rfl (fun args w => by simp [go_sem]) HIT4.out (Nat.le_refl _) ?hps
    (CutI o f n vb lb xb (w.heap.size + 3)) (fun _ _ _ _ => False) CutI.stable ?hIx (fun k => w.heap.size + 3 ≤ k ∧ k < W3.heap.size) ?hC0 ?hOwn ?h0 ?hround ?hdone ?hstop
  case hps => intro x; rfl
  case hIx => exact fun c i C W W' h _ _ => h
  case hC0 =>
    intro k hk
    have := HZ.out
    omega
  case hOwn =>
    intro k hk
    have h1 := HZ.out
    have h2 := HBW.out.size
    refine ⟨?_, rfl, ?_⟩
    · rcases hk with h | h | h <;> omega
    · rintro h3; rcases hk with h | h | h <;> omega
  case h0 =>
    have hz := HZ.out
    have hvb := HVB.out
    obtain ⟨hlb, hxb⟩ := HLB.out
    have hlo : ∀ i, i < Hy.start.length → bs i < vb := fun i hi => by rw [hvb]; exact HG2.out.lt hi
    have hge : ∀ i, i < Hy.start.length → w.heap.size + 3 ≤ bs i := fun i hi => by have := HG2.out.lo i hi; have := HS1.out; omega
    have hbl : ∀ k, k < vb → w4.heap[k]? = w2.heap[k]? := fun k hk => (HB4.out.block k (by omega)).trans (HB3.out.block k (by omega))
    refine ⟨fun k hk => hk.1, ⟨by omega, by omega⟩, ⟨by omega, by omega⟩, ⟨by omega, by omega⟩, pb, bs, Hy.start, fun _ => 0, .slice none 0 0, .slice none 0 0, ⟨by omega, by omega⟩, ⟨by omega, by omega, by omega, by simp [Value.ownBlock], by simp [Value.ownBlock]⟩, (HB4.out.block _ (by omega)).trans HP0.out, ?_, ?_, (HB4.out.block _ (by omega)).trans HP1.out, GR.nil _ _, (HB4.out.block _ (by omega)).trans HP2.out, GR.nil _ _, fun b hb => by simp [Value.ownBlock] at hb, fun b hb => by simp [Value.ownBlock] at hb⟩
    · refine HG2.out.to (hbl _ (by omega)) (fun i hi => hbl _ (hlo i hi)) (fun i hi => ?_)
      have h1 := hlo i hi
      have h2 := hge i hi
      exact ⟨⟨by omega, by omega⟩, by omega, by omega, by omega, by simp [Value.ownBlock], by simp [Value.ownBlock]⟩
    · have h := Cov.tiles_first o HIN.out (by have := HNN.out; omega)
      exact ⟨h.inv, fun m hm => by omega, fun m hm => by omega, fun m hm => by omega⟩
  case hstop => exact fun D i c C W _ _ h => h.elim
  case hround =>
    intro l i C x W hx hI hC hsz hCl hlW hOl
    obtain ⟨hxk, hin, hfe⟩ := HX.out i x hx
    obtain ⟨k, y, fr, le⟩ := x
    simp only at hxk hfe
    subst hxk
    simp only [encF, List.zip_toArray, List.zip_cons_cons, List.zip_nil_left, List.size_toArray, List.foldl_toArray, List.foldl_cons, List.foldl_nil, List.setIfInBounds_toArray, List.set_cons_succ, List.set_cons_zero]
    have HI := Lib.hid hI; have HC := Lib.hid hC
    have HLW := Lib.hid (And.intro hCl hlW)
    have HFE := Lib.hid hfe
    have HKN := Lib.hid hin
    clear hI hC hCl hlW hOl hx hfe hin
    gi_wp2_with fail
    refine ⟨(Only.refl _ W).alloc (fun k hk => .inr hk) _, ?_⟩
    intro W4 hs4 hk4
    have hnl : ∀ x, C x → x ≠ l ∧ x < W.heap.size := fun x hx => ⟨fun e => HLW.out.1 (e ▸ hx), HC.out x hx⟩
    have hfb : W4.heap[W.heap.size]? = some (.cells #[.int .i64 k, .int .i64 y, .int .i64 fr, .int .i64 le] 224) := (hk4 _ (by have := HLW.out.2; omega)).trans (World.alloc_heap_new W _)
    have hsz4 : W4.heap.size = W.heap.size + 1 := by simpa using hs4
    have hI4 : CutI o f n vb lb xb (w.heap.size + 3) k C W4 := (CutI.stable (Own := fun _ => False)) _ _ _ _ HI.out (fun x hx => (hk4 x (hx.elim (fun hx => (hnl x hx).1) (fun h => h.elim))).trans (Below.heap_alloc _ _ _ (hx.elim (fun hx => (hnl x hx).2) (fun h => h.elim)))) (by omega)
    obtain ⟨pb, bs, G, J, lv, tv, h1, h2, h3, h4, h5, h6, h7, h8, h9, h10, h11⟩ := hI4.st
    obtain ⟨al, cl, hle, -⟩ := h7.open
    obtain ⟨at_, ct, hte, -⟩ := h9.open
    subst hle hte
    have hCW4 : ∀ x, C x → x < W4.heap.size := fun x hx => by have := (hnl x hx).2; omega
    have HCI := Lib.hid (show (∀ x, C x → w.heap.size + 3 ≤ x) ∧ C vb ∧ C lb ∧ C xb ∧ C pb from ⟨hI4.low, hI4.cv, hI4.cl, hI4.cx, h1⟩)
    have HPN := Lib.hid h2
    have HVB4 := Lib.hid h3; have HG4 := Lib.hid h4; have HT4 := Lib.hid h5; have HLB4 := Lib.hid h6; have HLR4 := Lib.hid h7; have HXB4 := Lib.hid h8; have HTR4 := Lib.hid h9
    have HL10 := Lib.hid h10; have HL11 := Lib.hid h11
    have HCW4 := Lib.hid hCW4
    have HFB := Lib.hid hfb
    have HSZ := Lib.hid hsz4
    have c1 := cell_of_heap h3 0
    have c2 := cell_of_heap h4.plane 9
    have d2 := cell_of_heap hfb 2
    simp only [planeCells, List.getElem?_toArray, List.getElem?_cons_zero, List.getElem?_cons_succ] at c1 c2 d2
    have hsrc := Cov.W_src HIN.out (by have := HNN.out; omega) HFE.out
    clear h1 h2 h3 h4 h5 h6 h7 h8 h9 h10 h11 hI4 hfb hCW4 hsz4 hs4 hk4 hsz hnl
    rcases hsrc with ⟨hk0, he⟩ | ⟨j, i', hj, hi', he, hw⟩
    case' inl =>
      simp only [Prod.mk.injEq] at he
      obtain ⟨rfl, rfl⟩ := he
      have HPK := Lib.hid hk0
      gi_upto_region 9 with fail
      clear c1 c2 d2
      obtain ⟨W5, hW5⟩ : ∃ W5, W5 = W4 := ⟨_, rfl⟩
      obtain ⟨bs5, hbs5⟩ : ∃ bs5, bs5 = bs := ⟨_, rfl⟩
      obtain ⟨z, hz⟩ : ∃ z : Nat, z = 0 := ⟨_, rfl⟩
      have hzv : bs 0 = bs5 z := by rw [hbs5, hz]
      rw [hzv, ← hW5]
      have HST := Lib.hid (show ∃ G5, GRep W5 o (fun x => (C x ∨ W4.heap.size ≤ x) ∧ x ≠ vb ∧ x ≠ lb ∧ x ≠ xb ∧ (Value.slice al k cl).ownBlock ≠ some x ∧ (Value.slice at_ k ct).ownBlock ≠ some x) pb bs5 G5 ∧ TilesAt o f n G5 J k ∧ z < G5.length ∧ Hy.Leads G5 0 (Cov.W f n 0 k) z ∧ (∀ i, i < G.length → bs5 i = bs i) ∧
          Only (fun x => (C x ∨ W4.heap.size ≤ x) ∧ x ≠ vb ∧ x ≠ lb ∧ x ≠ xb ∧ (Value.slice al k cl).ownBlock ≠ some x ∧ (Value.slice at_ k ct).ownBlock ≠ some x) W4 W5 from by
        rw [hW5, hbs5, hz]
        refine ⟨G, HG4.out.sub (fun i hi => ?_), HT4.out, HT4.out.inv.pos, ?_, fun _ _ => rfl, Only.refl _ _⟩
        · obtain ⟨h1, h2⟩ := HG4.out.lo i hi
          exact ⟨.inl h1, h2⟩
        · rw [HPK.out, (Cov.met_first HIN.out (by have := HNN.out; omega)).2.1]; rfl)
      clear hzv hW5 hbs5 hz hk0
    case' inr =>
      simp only [Prod.mk.injEq] at he
      obtain ⟨rfl, rfl⟩ := he
      obtain ⟨G5, z, hstep, ht5, hz5, hl5⟩ := HT4.out.step F HIN.out (by have := HNN.out; omega) HNN.out.2 (by rw [HTT.out]; have := HKN.out; omega) hj hi'
      rw [← hw] at hl5
      have HPK := Lib.hid (And.intro ht5 (And.intro hz5 hl5))
      obtain ⟨B, hB⟩ : ∃ B : Nat → Prop, B = fun x => (C x ∨ W4.heap.size ≤ x) ∧ x ≠ vb ∧ x ≠ lb ∧ x ≠ xb ∧ (Value.slice al k cl).ownBlock ≠ some x ∧ (Value.slice at_ k ct).ownBlock ≠ some x := ⟨_, rfl⟩
      have hBB : ∀ x, B x ↔ (C x ∨ W4.heap.size ≤ x) ∧ x ≠ vb ∧ x ≠ lb ∧ x ≠ xb ∧ (Value.slice al k cl).ownBlock ≠ some x ∧ (Value.slice at_ k ct).ownBlock ≠ some x := fun x => by rw [hB]
      have hF : Free B W4.drew := fun x hx => by
        obtain ⟨_, b1, b2, b3, _⟩ := HCI.out
        have hx' : W4.heap.size ≤ x := hx
        have g1 := HCW4.out _ b1; have g2 := HCW4.out _ b2; have g3 := HCW4.out _ b3
        refine (hBB x).2 ⟨.inr hx', by omega, by omega, by omega, fun e => ?_, fun e => ?_⟩
        · have := HCW4.out _ (HL10.out x e).1; omega
        · have := HCW4.out _ (HL11.out x e).1; omega
      have HST5 := Lib.hid (HSTEP.out B pb W4.drew bs G (J j) i' G5 z ((HG4.out.drew).sub (fun i hi => by
        obtain ⟨h1, h2⟩ := HG4.out.lo i hi
        exact (hBB _).2 ⟨.inl h1, h2⟩)) hF hi' hstep)
      have hjk : (j : Int) < (k : Int) := by omega
      have hjcell : ∃ gl offl, al = some ⟨gl, offl, none⟩ ∧ gl < W4.heap.size ∧ ¬ B gl ∧ W4.cell? ⟨gl, offl + j, none⟩ = some (.pointer (some ⟨bs (J j), 0, none⟩)) := by
        obtain ⟨a', c', e', -, hcl⟩ := HLR4.out.open
        simp only [Value.slice.injEq] at e'
        obtain ⟨rfl, -, rfl⟩ := e'
        obtain ⟨gl, offl, rfl, h1, h2⟩ := hcl j _ (tileCells_at hj)
        exact ⟨gl, offl, rfl, h1, fun hb => by have := ((hBB gl).1 hb).2.2.2.2.1; simp [Value.ownBlock] at this, h2⟩
      obtain ⟨gl, offl, rfl, hgl, hBgl, hjc⟩ := hjcell
      have nvb : ¬ B vb := fun hb => ((hBB _).1 hb).2.1 rfl
      have nlb : ¬ B lb := fun hb => ((hBB _).1 hb).2.2.1 rfl
      have nfb : ¬ B W.heap.size := fun hb => by
        have h1 := ((hBB _).1 hb).1
        have h2 := HSZ.out
        rcases h1 with h1 | h1
        · have := HC.out _ h1; omega
        · omega
      have l1 := fun (y : LaterB B W4) => (y.cell vb 0 (HCW4.out _ HCI.out.2.1) nvb).trans c1
      have l2 := fun (y : LaterB B W4) => (y.cell lb 0 (HCW4.out _ HCI.out.2.2.1) nlb).trans (cell_of_heap HLB4.out 0)
      have l3 := fun (y : LaterB B W4) => (y.cell W.heap.size 2 (by have := HSZ.out; omega) nfb).trans d2
      have l4 := fun (y : LaterB B W4) => (y.cell W.heap.size 3 (by have := HSZ.out; omega) nfb).trans (cell_of_heap HFB.out 3)
      have l5 := fun (y : LaterB B W4) => (y.cell gl (offl + j) hgl hBgl).trans hjc
      simp only [List.getElem?_toArray, List.getElem?_cons_zero, List.getElem?_cons_succ] at l2 l4
      have HBB := Lib.hid hBB
      clear hBB hF hgl hBgl hjc nvb nlb nfb hB ht5 hz5 hl5 hstep
      gi_upto_region 8 with fail
      clear c1 c2 d2
      refine wpIn_region_segs (Open.round l) [([0, 1, 2, 3, 4, 5, 6, 7], [8])] 9 (fun w' => ∃ y : LaterB B W4, w' = y.W) ⟨⟨W4.drew, (Only.refl _ _).drew⟩, rfl⟩ (by kernel_rfl) (by kernel_rfl) ?_
      simp only [List.map_cons, List.map_nil, pickOps, List.flatMap_cons, List.flatMap_nil, List.cons_append, List.nil_append, List.take_succ_cons, List.take_zero, List.drop_succ_cons, List.drop_zero, wpSegs]
      repeat (go_big_quiet_step (fail))
      refine wpQuiet_nil ?_
      clear l1 l2 l3 l4 l5
      refine wpG_step ?_
      intro K2 hK2
      go_wp2_with fail
      refine HST5.out.mono ?_
      rintro e W5 ⟨bs5, rfl, hG5, hag, hO5, hlen5, -⟩
      have hO5' : Only B W4 W5 := ((Only.refl B W4).drew).trans hO5
      have HST := Lib.hid (show ∃ G5, GRep W5 o (fun x => (C x ∨ W4.heap.size ≤ x) ∧ x ≠ vb ∧ x ≠ lb ∧ x ≠ xb ∧ (Value.slice (some ⟨gl, offl, none⟩) k cl).ownBlock ≠ some x ∧ (Value.slice at_ k ct).ownBlock ≠ some x) pb bs5 G5 ∧ TilesAt o f n G5 J k ∧ z < G5.length ∧ Hy.Leads G5 0 (Cov.W f n 0 k) z ∧ (∀ i, i < G.length → bs5 i = bs i) ∧
          Only (fun x => (C x ∨ W4.heap.size ≤ x) ∧ x ≠ vb ∧ x ≠ lb ∧ x ≠ xb ∧ (Value.slice (some ⟨gl, offl, none⟩) k cl).ownBlock ≠ some x ∧ (Value.slice at_ k ct).ownBlock ≠ some x) W4 W5 from
        ⟨G5, hG5.sub (fun i hi => (HBB.out _).1 (hG5.lo i hi)), HPK.out.1, HPK.out.2.1, HPK.out.2.2, hag, hO5'.mono (fun x hx => (HBB.out x).1 hx)⟩)
      clear hG5 hag hO5 hlen5
      go_wp2_with fail
      refine ⟨⟨⟨W5, hO5'.mono (fun x hx => .inl hx)⟩, rfl⟩, hK2 _ _ ?_⟩
      clear hK2 hO5'
      refine wpG_nil ?_
      gi_upto_region 9 with fail
      obtain ⟨al, hal⟩ : ∃ al, al = (some ⟨gl, offl, none⟩ : Option Addr) := ⟨_, rfl⟩
      rw [← hal] at HLB4 HLR4 HL10 HL11 HPN HST
      clear hal
    all_goals
      obtain ⟨G5, hG5, hT5, hz5, hl5, hag5, hO5⟩ := HST.out
      obtain ⟨n5, hn5⟩ : ∃ n5, G5[z]? = some n5 := ⟨_, List.getElem?_eq_getElem hz5⟩
      have hword : n5.word = Cov.W f n 0 k := by
        rw [← Hy.wd_some hn5]
        exact (Hy.nf_of_leads F hT5.inv (Cov.W_lets HIN.out (by have := HNN.out; omega) (by rw [HTT.out]; exact HKN.out)) hl5).uniq (Cov.W_nf HIN.out HH.out (by have := HNN.out; omega) (by rw [HTT.out]; exact HKN.out))
      have hzc : W5.heap[bs5 z]? = some (.cells (nodeCells bs5 n5) 234) := hG5.node z n5 hn5
      have HT6 := Lib.hid (hT5.next F HIN.out HH.out (by have := HNN.out; omega) (by rw [HTT.out]; exact HKN.out) hz5 hl5)
      obtain ⟨b0, b1, b2, b3, b4⟩ := HCI.out
      have hsz45 := hO5.size
      have hlb5 := (hO5.block lb (fun h => h.2.2.1 rfl)).trans HLB4.out
      have hxb5 := (hO5.block xb (fun h => h.2.2.2.1 rfl)).trans HXB4.out
      have hvb5 := (hO5.block vb (fun h => h.2.1 rfl)).trans HVB4.out
      have hfb5 : ∀ x, x < W.heap.size + 1 → ¬ C x → W5.heap[x]? = W4.heap[x]? := fun x hx hn => hO5.block x (fun h => by
        have h1 := HSZ.out
        rcases h.1 with h | h
        · exact hn h
        · omega)
      have hlr5 : GR W5 1 (.slice al k cl) k (tileCells bs5 J k) := by
        rw [tileCells_congr (fun m hm => show bs5 (J m) = bs (J m) from hag5 _ (HT4.out.lt m hm))]
        exact HLR4.out.only hO5 (fun b hb h => h.2.2.2.2.1 hb)
      have htr5 : GR W5 1 (.slice at_ k ct) k (wordCells f n k) := HTR4.out.only hO5 (fun b hb h => h.2.2.2.2.2 hb)
      have c1 := cell_of_heap hlb5 0
      have hnk : k ≤ 900000000 := by have := HKN.out; have := HNN.out; omega
      simp only [List.getElem?_toArray, List.getElem?_cons_zero, List.getElem?_cons_succ] at c1
      have HG5 := Lib.hid hG5; have HO5 := Lib.hid hO5; have HAG := Lib.hid hag5; have HLB5 := Lib.hid hlb5; have HXB5 := Lib.hid hxb5; have HVB5 := Lib.hid hvb5; have HLR5 := Lib.hid hlr5; have HTR5 := Lib.hid htr5
      have HZC := Lib.hid hzc; have HWD := Lib.hid hword; have HZ5 := Lib.hid (And.intro hz5 hn5); have HNK := Lib.hid hnk
      clear hG5 hT5 hl5 hag5 hO5 hlb5 hxb5 hvb5 hlr5 htr5 hzc hword hz5 hn5 hnk HST hfb5
      gi_wp2_with (gi_at_builtin; refine wpListIn_gr W5 rowTile rfl _ _ rfl (v := .slice al k cl) (xs := tileCells bs5 J k) rfl HLR5.out _ [.pointer (some ⟨bs5 z, 0, none⟩)] rfl rfl (by intro u hu; simp at hu; subst hu; rfl) HNK.out ?_)
      intro v9 w9 hq9 ho9 hv9
      obtain ⟨a9, c9, hv9e, -⟩ := hq9.open
      subst hv9e
      have hbz := HZC.out
      have hlb9 := (ho9.block lb (by
        rintro (h | h)
        · exact (HL10.out _ h).2.2.1 rfl
        · have := (Array.getElem?_eq_some_iff.1 HLB5.out).1; omega)).trans HLB5.out
      have e0 := cell_of_heap hlb9 0
      have e1 := free_of_heap hlb9 0
      simp only [List.getElem?_toArray, List.getElem?_cons_zero, List.getElem?_cons_succ] at e0 e1
      have HQ9 := Lib.hid hq9; have HO9 := Lib.hid ho9; have HV9 := Lib.hid hv9; have HLB9 := Lib.hid hlb9
      clear hq9 ho9 hv9 hlb9 c1
      gi_upto_region 10 with fail
      clear e0 e1
      have hone6 : Only (fun x => x = lb) w9 (w9.setCell ⟨lb, 0, none⟩ (.slice a9 (k + 1) c9)) := only_one w9 lb 0 _
      have hlb6 : (w9.setCell ⟨lb, 0, none⟩ (.slice a9 (k + 1) c9)).heap[lb]? = some (.cells #[.slice a9 (k + 1) c9] 226) := by
        have h := heap_setCell_same w9 lb 0 _ _ (.slice a9 (k + 1) c9) HLB9.out
        simpa using h
      generalize w9.setCell ⟨lb, 0, none⟩ (.slice a9 (k + 1) c9) = W6 at hone6 hlb6 ⊢
      have ho6 : Only (fun x => (Value.slice al k cl).ownBlock = some x ∨ W5.heap.size ≤ x ∨ x = lb) W5 W6 := (HO9.out.mono (fun x hx => hx.elim .inl (fun h => .inr (.inl h)))).trans (hone6.mono (fun x hx => .inr (.inr hx)))
      have hv6 : ∀ b, (Value.slice a9 (k + 1) c9).ownBlock = some b → ((Value.slice al k cl).ownBlock = some b ∨ W5.heap.size ≤ b) := HV9.out
      have hlbl : lb < W5.heap.size := (Array.getElem?_eq_some_iff.1 HLB5.out).1
      have hxbl : xb < W5.heap.size := (Array.getElem?_eq_some_iff.1 HXB5.out).1
      have hvbl : vb < W5.heap.size := (Array.getElem?_eq_some_iff.1 HVB5.out).1
      have hdis := HLB.out
      have hlr6 : GR W6 1 (.slice a9 (k + 1) c9) (k + 1) (tileCells bs5 (fun m => if m = k then z else J m) (k + 1)) := by
        rw [tileCells_succ, tileCells_congr (fun m hm => show bs5 (if m = k then z else J m) = bs5 (J m) from by rw [if_neg (by omega)])]
        simp only [if_pos]
        refine HQ9.out.only hone6 (fun b hb e => ?_)
        rcases hv6 b hb with h | h
        · exact (HL10.out b h).2.2.1 e
        · omega
      have hn6 : ∀ x, x < W5.heap.size → (Value.slice al k cl).ownBlock ≠ some x → x ≠ lb → W6.heap[x]? = W5.heap[x]? := fun x h1 h2 h3 => ho6.block x (by
        rintro (h | h | h)
        · exact h2 h
        · omega
        · exact h3 h)
      have hxb6 := (hn6 xb hxbl (fun h => (HL10.out _ h).2.2.2 rfl) (by omega)).trans HXB5.out
      have hvb6 := (hn6 vb hvbl (fun h => (HL10.out _ h).2.1 rfl) (by omega)).trans HVB5.out
      have hnode : ∀ i, i < G5.length → bs5 i < W5.heap.size ∧ (Value.slice al k cl).ownBlock ≠ some (bs5 i) ∧ bs5 i ≠ lb ∧ bs5 i ≠ xb ∧ bs5 i ≠ vb ∧ (Value.slice at_ k ct).ownBlock ≠ some (bs5 i) ∧ (C (bs5 i) ∨ W4.heap.size ≤ bs5 i) := fun i hi => by
        obtain ⟨h1, h2, h3, h4, h5, h6⟩ := HG5.out.lo i hi
        exact ⟨HG5.out.lt hi, h5, h3, h4, h2, h6, h1⟩
      have hpbl : pb < W5.heap.size := (Array.getElem?_eq_some_iff.1 HG5.out.plane).1
      have hz6 := (hn6 (bs5 z) (hnode z HZ5.out.1).1 (hnode z HZ5.out.1).2.1 (hnode z HZ5.out.1).2.2.1).trans HZC.out
      have hG6 : GRep W6 o (fun x => True) pb bs5 G5 := HG5.out.to (hn6 pb hpbl HPN.out.2.2.2.1 HPN.out.2.1) (fun i hi => hn6 _ (hnode i hi).1 (hnode i hi).2.1 (hnode i hi).2.2.1) (fun i hi => trivial)
      have htr6 : GR W6 1 (.slice at_ k ct) k (wordCells f n k) := HTR5.out.only ho6 (fun b hb h => by
        obtain ⟨h1, h2, h3, h4, h5⟩ := HL11.out b hb
        rcases h with h | h | h
        · exact h5 h
        · have := HCW4.out b h1; omega
        · exact h3 h)
      obtain ⟨B, hB⟩ : ∃ B : Nat → Prop, B = fun b => (Value.slice at_ k ct).ownBlock = some b := ⟨_, rfl⟩
      have hs56 := ho6.size
      have l1 := fun (y : LaterB B W6) => (y.cell xb 0 (by omega) (fun hb => by rw [hB] at hb; exact (HL11.out _ hb).2.2.2.1 rfl)).trans (cell_of_heap hxb6 0)
      have l2 := fun (y : LaterB B W6) => (y.cell (bs5 z) 0 (by have := (hnode z HZ5.out.1).1; omega) (fun hb => by rw [hB] at hb; exact (hnode z HZ5.out.1).2.2.2.2.2.1 hb)).trans (cell_of_heap hz6 0)
      simp only [nodeCells, List.getElem?_toArray, List.getElem?_cons_zero, List.getElem?_cons_succ] at l1 l2
      rw [HWD.out] at l2
      obtain ⟨wd, hwd⟩ : ∃ wd, Value.string wd = str (Cov.W f n 0 k) := ⟨_, rfl⟩
      rw [← hwd] at l2
      have HWV := Lib.hid hwd; have HB := Lib.hid hB
      have HTR6 := Lib.hid (htr6.later ((Below.refl W6.heap.size W6).drew))
      have HO6 := Lib.hid ho6; have HLR6 := Lib.hid hlr6; have HXB6 := Lib.hid hxb6; have HVB6 := Lib.hid hvb6; have HG6 := Lib.hid hG6; have HLB6 := Lib.hid hlb6
      have HND := Lib.hid hnode; have HV6 := Lib.hid hv6;
      have HBL := Lib.hid (And.intro hlbl (And.intro hxbl (And.intro hvbl hpbl)))
      clear hone6 hlb6 ho6 hv6 hlbl hxbl hvbl hdis hlr6 hn6 hxb6 hvb6 hnode hpbl hz6 hG6 htr6 hwd hB hbz HZC
      refine wpIn_region_segs (Open.round l) [([0, 1, 2, 3, 4, 5], [6, 7])] 8 (fun w' => ∃ y : LaterB B W6, w' = y.W) ⟨⟨W6.drew, (Only.refl _ _).drew⟩, rfl⟩ (by kernel_rfl) (by kernel_rfl) ?_
      simp only [List.map_cons, List.map_nil, pickOps, List.flatMap_cons, List.flatMap_nil, List.cons_append, List.nil_append, List.take_succ_cons, List.take_zero, List.drop_succ_cons, List.drop_zero, wpSegs]
      repeat (go_big_quiet_step (fail))
      refine wpQuiet_nil ?_
      clear l1 l2
      refine wpG_step ?_
      intro K2 hK2
      go_wp2_with fail
      refine ⟨⟨⟨_, ((Only.refl _ _).alloc (fun k hk => .inr hk) _).drew⟩, rfl⟩, hK2 _ _ ?_⟩
      clear hK2
      refine wpG_step ?_
      intro K3 hK3
      go_wp2_with (at_builtin; refine wpList_gr W6.drew rowStr rfl _ _ rfl (v := .slice at_ k ct) (xs := wordCells f n k) rfl HTR6.out _ [.string wd] rfl rfl (by intro u hu; simp at hu; subst hu; rfl) HNK.out ?_)
      intro v7 w7 hq7 ho7 hv7
      obtain ⟨a7, c7, hv7e, -⟩ := hq7.open
      subst hv7e
      have ho7' : Only (fun k_1 => (Value.slice at_ k ct).ownBlock = some k_1 ∨ W6.heap.size ≤ k_1) W6 w7 := ((Only.refl _ W6).drew).trans ho7
      have hxb7 := (ho7'.block xb (by
        rintro (h | h)
        · exact (HL11.out _ h).2.2.2.1 rfl
        · have := (Array.getElem?_eq_some_iff.1 HXB6.out).1; omega)).trans HXB6.out
      go_wp2_with fail
      refine ⟨⟨⟨w7, by rw [HB.out]; exact ho7'⟩, rfl⟩, hK3 _ _ ?_⟩
      clear hK3
      refine wpG_nil ?_
      have e0 := cell_of_heap hxb7 0
      have e1 := free_of_heap hxb7 0
      simp only [List.getElem?_toArray, List.getElem?_cons_zero, List.getElem?_cons_succ] at e0 e1
      have HQ7 := Lib.hid hq7; have HO7 := Lib.hid ho7'; have HV7 := Lib.hid hv7; have HXB7 := Lib.hid hxb7
      clear hq7 ho7 ho7' hv7 hxb7
      gi_wp2_with fail
      have hone8 : Only (fun x => x = xb) w7 (w7.setCell ⟨xb, 0, none⟩ (.slice a7 (k + 1) c7)) := only_one w7 xb 0 _
      have hxb8 : (w7.setCell ⟨xb, 0, none⟩ (.slice a7 (k + 1) c7)).heap[xb]? = some (.cells #[.slice a7 (k + 1) c7, .slice none 0 0] 129) := by
        have h := heap_setCell_same w7 xb 0 _ _ (.slice a7 (k + 1) c7) HXB7.out
        simpa using h
      clear e0 e1
      generalize w7.setCell ⟨xb, 0, none⟩ (.slice a7 (k + 1) c7) = W8 at hone8 hxb8 ⊢
      obtain ⟨b0, b1, b2, b3, b4⟩ := HCI.out
      obtain ⟨hlbl, hxbl, hvbl, hpbl⟩ := HBL.out
      have hdis := HLB.out
      have hz4 := HSZ.out
      have hz5 := HO5.out.size
      have hz6 := HO6.out.size
      have hz7 := HO7.out.size
      have hz8 := hone8.size
      have ho78 : Only (fun x => (Value.slice at_ k ct).ownBlock = some x ∨ W6.heap.size ≤ x ∨ x = xb) W6 W8 := (HO7.out.mono (fun x hx => hx.elim .inl (fun h => .inr (.inl h)))).trans (hone8.mono (fun x hx => .inr (.inr hx)))
      have hn8 : ∀ x, x < W6.heap.size → (Value.slice at_ k ct).ownBlock ≠ some x → x ≠ xb → W8.heap[x]? = W6.heap[x]? := fun x h1 h2 h3 => ho78.block x (by
        rintro (h | h | h)
        · exact h2 h
        · omega
        · exact h3 h)
      have hv7 : ∀ b, (Value.slice a7 (k + 1) c7).ownBlock = some b → (Value.slice at_ k ct).ownBlock = some b ∨ W6.heap.size ≤ b := HV7.out
      have hv6 : ∀ b, (Value.slice a9 (k + 1) c9).ownBlock = some b → (Value.slice al k cl).ownBlock = some b ∨ W5.heap.size ≤ b := HV6.out
      have hl6 : ∀ b, (Value.slice a9 (k + 1) c9).ownBlock = some b → b < W6.heap.size := HLR6.out.lt
      have hr6 : ∀ b, (Value.slice a9 (k + 1) c9).ownBlock = some b → (C b ∨ W4.heap.size ≤ b) ∧ b ≠ vb ∧ b ≠ lb ∧ b ≠ xb ∧ b ≠ pb ∧ (Value.slice at_ k ct).ownBlock ≠ some b := fun b hb => by
        rcases hv6 b hb with h | h
        · obtain ⟨h1, h2, h3, h4⟩ := HL10.out b h
          refine ⟨.inl h1, h2, h3, h4, fun e => HPN.out.2.2.2.1 (e ▸ h), fun e => (HL11.out b e).2.2.2.2 h⟩
        · refine ⟨.inr (by omega), by omega, by omega, by omega, by omega, fun e => ?_⟩
          have := HCW4.out b (HL11.out b e).1
          omega
      have hr7 : ∀ b, (Value.slice a7 (k + 1) c7).ownBlock = some b → (C b ∨ W4.heap.size ≤ b) ∧ b ≠ vb ∧ b ≠ lb ∧ b ≠ xb ∧ b ≠ pb ∧ (Value.slice a9 (k + 1) c9).ownBlock ≠ some b := fun b hb => by
        rcases hv7 b hb with h | h
        · obtain ⟨h1, h2, h3, h4, h5⟩ := HL11.out b h
          refine ⟨.inl h1, h2, h3, h4, fun e => HPN.out.2.2.2.2 (e ▸ h), fun e => (hr6 b e).2.2.2.2.2 h⟩
        · refine ⟨.inr (by omega), by omega, by omega, by omega, by omega, fun e => ?_⟩
          have := hl6 b e
          omega
      have htr8 : GR W8 1 (.slice a7 (k + 1) c7) (k + 1) (wordCells f n (k + 1)) := by
        rw [wordCells_succ, ← HWV.out]
        exact HQ7.out.only hone8 (fun b hb e => (hr7 b hb).2.2.2.1 e)
      have hlr8 : GR W8 1 (.slice a9 (k + 1) c9) (k + 1) (tileCells bs5 (fun m => if m = k then z else J m) (k + 1)) :=
        HLR6.out.only ho78 (fun b hb h => by
          have h1 := hr6 b hb
          rcases h with h | h | h
          · exact h1.2.2.2.2.2 h
          · have := hl6 b hb; omega
          · exact h1.2.2.2.1 h)
      have hG8 : GRep W8 o (fun x => ((C x ∨ W.heap.size ≤ x) ∧ x < W8.heap.size) ∧ x ≠ vb ∧ x ≠ lb ∧ x ≠ xb ∧ (Value.slice a9 (k + 1) c9).ownBlock ≠ some x ∧ (Value.slice a7 (k + 1) c7).ownBlock ≠ some x) pb bs5 G5 :=
        HG6.out.to (hn8 pb (by omega) HPN.out.2.2.2.2 HPN.out.2.2.1) (fun i hi => by
          obtain ⟨h1, h2, h3, h4, h5, h6, h7⟩ := HND.out i hi
          exact hn8 _ (by omega) h6 h4) (fun i hi => by
          obtain ⟨h1, h2, h3, h4, h5, h6, h7⟩ := HND.out i hi
          refine ⟨⟨h7.imp id (fun h => by omega), by omega⟩, h5, h3, h4, fun e => ?_, fun e => ?_⟩
          · rcases hv6 _ e with h | h
            · exact h2 h
            · omega
          · rcases hv7 _ e with h | h
            · exact h6 h
            · omega)
      have hlb8 := (hn8 lb (by omega) (fun h => (HL11.out _ h).2.2.1 rfl) (by omega)).trans HLB6.out
      have hvb8 := (hn8 vb (by omega) (fun h => (HL11.out _ h).2.1 rfl) (by omega)).trans HVB6.out
      have hCl : ∀ x, C x → x < W.heap.size := HC.out
      refine ⟨((HO5.out.mono (fun x hx => hx.1.imp id (fun h => by omega))).trans (HO6.out.mono (fun x hx => ?_))).trans (ho78.mono (fun x hx => ?_)), fun x => (C x ∨ W.heap.size ≤ x) ∧ x < W8.heap.size, fun x hx => ⟨hx.1, hx.2⟩, ?_⟩
      · rcases hx with h | h | h
        · exact .inl (HL10.out x h).1
        · exact .inr (by omega)
        · rw [h]; exact .inl b2
      · rcases hx with h | h | h
        · exact .inl (HL11.out x h).1
        · exact .inr (by omega)
        · rw [h]; exact .inl b3
      · refine ⟨fun x hx => hx.1.elim (b0 x) (fun h => by have := b0 vb b1; have := hCl vb b1; omega), ⟨.inl b1, by omega⟩, ⟨.inl b2, by omega⟩, ⟨.inl b3, by omega⟩, pb, bs5, G5, fun m => if m = k then z else J m, _, _, ⟨.inl b4, by omega⟩, ⟨HPN.out.1, HPN.out.2.1, HPN.out.2.2.1, fun e => (hr6 _ e).2.2.2.2.1 rfl, fun e => (hr7 _ e).2.2.2.2.1 rfl⟩, hvb8, hG8, HT6.out, hlb8, hlr8, hxb8, htr8, fun b hb => ?_, fun b hb => ?_⟩
        · obtain ⟨h1, h2, h3, h4, h5, h6⟩ := hr6 b hb
          exact ⟨⟨h1.imp id (fun h => by omega), by have := hl6 b hb; omega⟩, h2, h3, h4⟩
        · obtain ⟨h1, h2, h3, h4, h5, h6⟩ := hr7 b hb
          exact ⟨⟨h1.imp id (fun h => by omega), htr8.lt b hb⟩, h2, h3, h4, h6⟩
  case hdone =>
    intro D C9 W9 hD hI hO hK
    rw [HXL.out] at hI
    obtain ⟨pb, bs9, G9, J, lv, tv, h1, h2, h3, h4, h5, h6, h7, h8, h9, h10, h11⟩ := hI.st
    obtain ⟨al, cl, hle, -, hlc⟩ := h7.open
    subst hle
    have hz := HZ.out
    have hzO := hO.size
    have hdis := HLB.out
    have hvb := HVB.out
    obtain ⟨B9, hB9⟩ : ∃ B9 : Nat → Prop, B9 = fun z => (C9 z ∨ W9.heap.size ≤ z) ∧ z ≠ vb ∧ z ≠ lb ∧ z ≠ D ∧ (Value.slice al n cl).ownBlock ≠ some z ∧ tv.ownBlock ≠ some z := ⟨_, rfl⟩
    have hBB : ∀ z, B9 z ↔ (C9 z ∨ W9.heap.size ≤ z) ∧ z ≠ vb ∧ z ≠ lb ∧ z ≠ D ∧ (Value.slice al n cl).ownBlock ≠ some z ∧ tv.ownBlock ≠ some z := fun z => by rw [hB9]
    have hDl : D < W9.heap.size := (Array.getElem?_eq_some_iff.1 hK).1
    have hDx : D ≠ xb := fun e => by rw [e, h8] at hK; cases hK
    have hDv : D ≠ vb := fun e => by rw [e, h3] at hK; cases hK
    have hDl2 : D ≠ lb := fun e => by rw [e, h6] at hK; cases hK
    have hDp : pb ≠ D := fun e => by have := h4.plane; rw [e, hK] at this; cases this
    have hDb : ∀ i, i < G9.length → bs9 i ≠ D := fun i hi e => by have := h4.node i _ (List.getElem?_eq_getElem hi); rw [e, hK] at this; cases this
    have hlo9 : ∀ z, B9 z → w.heap.size + 3 ≤ z := fun z hz' => by
      rcases ((hBB z).1 hz').1 with h | h
      · exact hI.low z h
      · omega
    have hBx : B9 xb := (hBB xb).2 ⟨.inl hI.cx, by omega, by omega, fun e => hDx e.symm, fun e => (h10 _ e).2.2.2 rfl, fun e => (h11 _ e).2.2.2.1 rfl⟩
    have hP0 : CutP o f n xb pb tv bs9 J B9 W9 0 0 W9 := by
      refine ⟨Only.refl _ _, bs9, G9, .slice none 0 0, 0, by simp [pairsT, pairsR], ?_, h5, fun _ _ => rfl, h8, by simpa [pairsT, pairsR, pairCells] using GR.nil W9 4, fun b hb => by simp [Value.ownBlock] at hb⟩
      refine h4.sub (fun i hi => ?_)
      obtain ⟨g1, g2, g3, g4, g5, g6⟩ := h4.lo i hi
      exact ⟨(hBB _).2 ⟨.inl g1, g2, g3, hDb i hi, g5, g6⟩, g4, by simp [Value.ownBlock]⟩
    have HOLD := Lib.hid (show ∀ wr : World, Only B9 W9 wr → ∀ z, z < w.heap.size + 2 → wr.heap[z]? = W3.heap[z]? from fun wr hon z hz' =>
      (hon.block z (fun h => by have := hlo9 z h; omega)).trans ((hO.block z (by
        rintro (h | h)
        · omega
        · omega)).trans (HB4.out.block z (by omega))))
    have hlrow : ∀ (wr : World), Only B9 W9 wr → wr.heap[lb]? = some (.cells #[.slice al n cl] 226) ∧ wr.heap[vb]? = some (.cells #[.pointer (some ⟨pb, 0, none⟩)] 139) ∧ wr.heap[D]? = some (.deferred (some [])) ∧
        GR wr 1 (.slice al n cl) n (tileCells bs9 J n) ∧ GR wr 1 tv n (wordCells f n n) := fun wr hon =>
      ⟨(hon.block lb (fun h => ((hBB _).1 h).2.2.1 rfl)).trans h6, (hon.block vb (fun h => ((hBB _).1 h).2.1 rfl)).trans h3, (hon.block D (fun h => ((hBB _).1 h).2.2.2.1 rfl)).trans hK,
        h7.only hon (fun b hb h => ((hBB _).1 h).2.2.2.2.1 hb), h9.only hon (fun b hb h => ((hBB _).1 h).2.2.2.2.2 hb)⟩
    have HROW := Lib.hid hlrow
    have HP0 := Lib.hid hP0
    have HBB := Lib.hid hBB
    have HLO9 := Lib.hid hlo9
    have HBX := Lib.hid hBx
    have HDD := Lib.hid (And.intro hD (And.intro hDl (And.intro hDx (And.intro hDp hDv))))
    have HO9 := Lib.hid hO
    have HPN := Lib.hid h2
    have HTV := Lib.hid h11
    have hlr9 := h7
    have HTVL := Lib.hid h9.lt
    have HLW9 := Lib.hid (show vb < W9.heap.size ∧ lb < W9.heap.size ∧ xb < W9.heap.size ∧ pb < W9.heap.size from ⟨(Array.getElem?_eq_some_iff.1 h3).1, (Array.getElem?_eq_some_iff.1 h6).1, (Array.getElem?_eq_some_iff.1 h8).1, (Array.getElem?_eq_some_iff.1 h4.plane).1⟩)
    have c1 := cell_of_heap h6 0
    simp only [List.getElem?_toArray, List.getElem?_cons_zero, List.getElem?_cons_succ] at c1
    have hnn := HNN.out
    have HLOW := Lib.hid hI.low
    clear h1 h2 h3 h4 h5 h6 h7 h8 h9 h10 h11 hlc hI hO hK hD hz hzO hdis hvb hB9 hBB hDl hDx hDv hDl2 hDp hDb hlo9 hBx hP0 hlrow
    simp only [Exit.inBlock, Exit.then]
    go_wp2_with fail
    clear c1
    go_loopw [50] (fun xv wr => ∃ x : Nat, xv = .int .i64 x ∧ x ≤ n ∧ Hid (CutP o f n xb pb tv bs9 J B9 W9 x 0 wr)) (fun xv _ => n - (intOf xv).toNat)
    case atStart => exact ⟨0, rfl, Nat.zero_le _, HP0⟩
    case round =>
      clear HP0
      obtain ⟨x, rfl, hx, HP⟩ := hrel
      by_cases hxn : x < n
      · have hxi : (x : Int) < (n : Int) := by omega
        obtain ⟨hlb, hvb, hDr, hlr, htr⟩ := HROW.out wr HP.out.on
        obtain ⟨al', cl', he', -, hcl⟩ := hlr.open
        simp only [Value.slice.injEq] at he'
        obtain ⟨rfl, -, rfl⟩ := he'
        obtain ⟨gl, offl, rfl, hgl, hlx⟩ := hcl x _ (tileCells_at hxn)
        clear hlb hvb hDr hlr htr hcl
        go_wp2_with fail
        clear hlx
        go_loopw [55] (fun iv wr => ∃ i : Nat, iv = .int .i64 i ∧ i ≤ 3 ∧ Hid (CutP o f n xb pb tv bs9 J B9 W9 x i wr)) (fun iv _ => 3 - (intOf iv).toNat)
        case atStart => exact ⟨0, rfl, Nat.zero_le _, HP⟩
        case round =>
          clear HP
          obtain ⟨i, rfl, hi, HP⟩ := hrel
          by_cases hi3 : i < 3
          · have hii : (i : Int) < 3 := by omega
            obtain ⟨bs, G, pv, cnt, e1, e2, e3, e4, e5, e6, e7⟩ := HP.out.st
            obtain ⟨hlb, hvb, hDr, hlr, htr⟩ := HROW.out wr HP.out.on
            have hold := HOLD.out wr HP.out.on
            obtain ⟨gi, ci, hVi, hci, hcell⟩ := HA.out i hi3
            have hli : (A i).length = n := by rw [HSH.out.len hi3]; exact HNF.out.1.symm
            rw [hli] at hVi hcell
            obtain ⟨g, off, rfl, hg, hc⟩ := hcell x hxn
            obtain ⟨y, hy⟩ : ∃ y, y = f i x := ⟨_, rfl⟩
            have hyn : y < n := by rw [hy]; exact HIN.out i x hi3 hxn
            have hyv : (A i).getD x 0 = (y : Int) := by rw [HSH.out.at hi3 (by rw [← HNF.out.1]; exact hxn), ← HNF.out.2, hy]
            rw [hyv] at hc
            have m1 : wr.cell? ⟨w.heap.size + 1, i, none⟩ = some (.slice (some ⟨g, off, none⟩) n ci) := by
              have h := box_at ((hold _ (by omega)).trans HQ31.out) hi3
              rw [h, hVi]
            have m2 : wr.cell? ⟨g, off + x, none⟩ = some (.int .i64 (y : Int)) := (World.cell?_of_block (w := w) (a := ⟨g, off + x, none⟩) ((hold g (by omega)).trans (HBW.out.block g hg))).trans hc
            obtain ⟨ap, cp, hpe, -⟩ := e6.open
            subst hpe
            obtain ⟨al', cl', he', -, hcl⟩ := hlr.open
            simp only [Value.slice.injEq] at he'
            obtain ⟨hal, -, hcl'⟩ := he'
            subst hal hcl'
            obtain ⟨gl', offl', hg', hgl', hly⟩ := hcl y _ (tileCells_at hyn)
            simp only [Option.some.injEq, Addr.mk.injEq, and_true] at hg'
            obtain ⟨rfl, rfl⟩ := hg'
            have hE1 := Lib.hid e1; have hE2 := Lib.hid e2; have hE3 := Lib.hid e3; have hE4 := Lib.hid e4; have hE5 := Lib.hid e5; have hE6 := Lib.hid e6; have hE7 := Lib.hid e7
            have HLB1 := Lib.hid hlb; have HVB1 := Lib.hid hvb; have HLY := Lib.hid hly; have HGL := Lib.hid hgl'
            have HY := Lib.hid hy
            clear e1 e2 e3 e4 e5 e6 e7 hlb hvb hDr hlr htr hold hVi hcell hc hyv hcl hly hgl hgl' hy hci hg
            by_cases hxy : x ≤ y
            · have hxyi : (x : Int) ≤ (y : Int) := by omega
              obtain ⟨G5, z, hstep, ht5, hz5, hl5⟩ := hE3.out.step F HIN.out (by omega) HNN.out.2 (by rw [HTT.out]; exact Nat.le_refl _) hxn hi3
              have hsame := ht5.same F HIN.out (by omega) (by rw [HTT.out]; exact Nat.le_refl _) hxn hyn hi3 hl5
              have HPK := Lib.hid (And.intro ht5 (And.intro hz5 (And.intro hl5 hsame)))
              obtain ⟨B, hB⟩ : ∃ B : Nat → Prop, B = fun q => (B9 q ∨ wr.heap.size ≤ q) ∧ q ≠ xb ∧ (Value.slice ap cnt cp).ownBlock ≠ some q := ⟨_, rfl⟩
              have hBB : ∀ q, B q ↔ (B9 q ∨ wr.heap.size ≤ q) ∧ q ≠ xb ∧ (Value.slice ap cnt cp).ownBlock ≠ some q := fun q => by rw [hB]
              have hwz := HP.out.on.size
              have hF : Free B wr.drew := fun q hq => by
                have hq' : wr.heap.size ≤ q := hq
                refine (hBB q).2 ⟨.inr hq', by have := HLW9.out; omega, fun e => ?_⟩
                have := hE6.out.lt q e
                omega
              have HST5 := Lib.hid (HSTEP.out B pb wr.drew bs G (J x) i G5 z ((hE2.out.drew).sub (fun m hm => by
                obtain ⟨h1, h2⟩ := hE2.out.lo m hm
                exact (hBB _).2 ⟨.inl h1, h2⟩)) hF hi3 hstep)
              rw [hE4.out x hxn] at HST5
              have nB : ∀ q, (q = lb ∨ q = vb ∨ q = gl) → q < W9.heap.size ∧ ¬ B q := fun q hq => by
                have h9 : ¬ B9 q → q < W9.heap.size → q < W9.heap.size ∧ ¬ B q := fun h hq => ⟨hq, fun hb => by
                  rcases ((hBB q).1 hb).1 with h1 | h1
                  · exact h h1
                  · omega⟩
                rcases hq with rfl | rfl | rfl
                · exact h9 (fun h => ((HBB.out _).1 h).2.2.1 rfl) HLW9.out.2.1
                · exact h9 (fun h => ((HBB.out _).1 h).2.1 rfl) HLW9.out.1
                · refine h9 (fun h => ((HBB.out _).1 h).2.2.2.2.1 rfl) ?_
                  exact hlr9.lt _ rfl
              have l1 := fun (y : LaterB B wr) => (y.cell vb 0 (by have := (nB vb (.inr (.inl rfl))).1; omega) (nB vb (.inr (.inl rfl))).2).trans (cell_of_heap HVB1.out 0)
              have l2 := fun (y : LaterB B wr) => (y.cell lb 0 (by have := (nB lb (.inl rfl)).1; omega) (nB lb (.inl rfl)).2).trans (cell_of_heap HLB1.out 0)
              have l3 := fun (yy : LaterB B wr) => (yy.cell gl (offl + y) HGL.out (nB gl (.inr (.inr rfl))).2).trans HLY.out
              simp only [List.getElem?_toArray, List.getElem?_cons_zero, List.getElem?_cons_succ] at l1 l2
              have HB2 := Lib.hid hBB
              have hyi : (y : Int) < (n : Int) := by omega
              clear hBB hF hB ht5 hz5 hl5 hstep hsame nB hwz
              go_upto_region 18 with fail
              clear m1 m2
              refine wp_region_segs [([0, 1, 2, 3, 4, 5, 6, 8, 9, 10, 11], [7])] 12 (fun w' => ∃ y : LaterB B wr, w' = y.W) ⟨⟨wr.drew, (Only.refl _ _).drew⟩, rfl⟩ (by kernel_rfl) (by kernel_rfl) ?_
              simp only [List.map_cons, List.map_nil, pickOps, List.flatMap_cons, List.flatMap_nil, List.cons_append, List.nil_append, List.take_succ_cons, List.take_zero, List.drop_succ_cons, List.drop_zero, wpSegs]
              repeat (go_big_quiet_step (fail))
              refine wpQuiet_nil ?_
              clear l1 l2 l3
              refine wpG_step ?_
              intro K2 hK2
              go_wp2_with fail
              refine HST5.out.mono ?_
              rintro e W5 ⟨bs5, rfl, hG5, hag, hO5, hlen5, -⟩
              have hO5' : Only B wr W5 := ((Only.refl B wr).drew).trans hO5
              have HG5 := Lib.hid hG5; have HAG := Lib.hid hag; have HO5 := Lib.hid hO5'
              clear hG5 hag hO5 hlen5 HST5
              go_wp2_with fail
              refine ⟨⟨⟨W5, hO5'.mono (fun x hx => .inl hx)⟩, rfl⟩, hK2 _ _ ?_⟩
              clear hK2 hO5'
              refine wpG_nil ?_
              obtain ⟨ht5, hz5, hl5, hsame⟩ := HPK.out
              have hJy : bs9 (J y) = bs5 (J y) := by rw [← hE4.out y hyn, HAG.out _ (hE3.out.lt y hyn)]
              have HJX := Lib.hid (show bs9 (J x) = bs5 (J x) by rw [← hE4.out x hxn, HAG.out _ (hE3.out.lt x hxn)])
              have hbase : Only B9 W9 W5 ∧ GRep W5 o (fun z => B9 z ∧ z ≠ xb ∧ (Value.slice ap cnt cp).ownBlock ≠ some z) pb bs5 G5 ∧ (∀ m, m < n → bs5 (J m) = bs9 (J m)) ∧
                  W5.heap[xb]? = some (.cells #[tv, .slice ap cnt cp] 129) ∧ GR W5 4 (.slice ap cnt cp) cnt (pairCells (pairsT o f n x ++ pairsR o f n x i)) := by
                have hup : ∀ q, B q → B9 q ∧ q ≠ xb ∧ (Value.slice ap cnt cp).ownBlock ≠ some q := fun q hq => by
                  obtain ⟨h1, h2⟩ := (HB2.out q).1 hq
                  refine ⟨h1.elim id (fun h => (HBB.out q).2 ?_), h2⟩
                  have hwz := HP.out.on.size
                  have h9 := HLW9.out
                  have h10 := HDD.out
                  refine ⟨.inr (by omega), by omega, by omega, by omega, fun e => ?_, fun e => ?_⟩
                  · have := hlr9.lt q e; omega
                  · have := HTVL.out q e; omega
                refine ⟨HP.out.on.trans (HO5.out.mono (fun q hq => (hup q hq).1)), HG5.out.sub (fun m hm => hup _ (HG5.out.lo m hm)), fun m hm => by rw [HAG.out _ (hE3.out.lt m hm), hE4.out m hm], (HO5.out.block xb (fun h => (hup _ h).2.1 rfl)).trans hE5.out, hE6.out.only HO5.out (fun b hb h => (hup _ h).2.2 hb)⟩
              have HBASE := Lib.hid hbase
              clear hbase
              by_cases hzy : z = J y
              · have hpe : bs5 z = bs9 (J y) := by rw [hzy, hJy]
                rw [hpe]
                clear hJy hpe
                have hnq := tile_neq_same ⟨bs9 (J y), 0, none⟩ W5
                go_wp2_with fail
                clear hnq
                go_roundw
                case rel => exact ⟨i + 1, by go_num, by omega, Lib.hid ⟨HBASE.out.1, bs5, G5, _, cnt, by
                    rw [Cov.pairsR_succ, show pairs1 o f n x i = [] from by unfold pairs1; rw [if_neg (fun h => h.2 (by rw [← HY.out]; exact hsame.1 hzy))], List.append_nil]; exact hE1.out, HBASE.out.2.1, ht5, HBASE.out.2.2.1, HBASE.out.2.2.2.1, by
                    rw [Cov.pairsR_succ, show pairs1 o f n x i = [] from by unfold pairs1; rw [if_neg (fun h => h.2 (by rw [← HY.out]; exact hsame.1 hzy))], List.append_nil]; exact HBASE.out.2.2.2.2, hE7.out⟩⟩
                case measure => simp [intOf]; omega
              · have hpe : ¬ bs5 z = bs9 (J y) := fun h => hzy (HG5.out.inj z (J y) hz5 (ht5.lt y hyn) (h.trans hJy))
                have HJY := Lib.hid hJy
                have hnq := tile_neq_other (a := ⟨bs5 z, 0, none⟩) (b := ⟨bs9 (J y), 0, none⟩) W5 (fun h => hpe (by simp at h)) (HG5.out.node z _ (List.getElem?_eq_getElem hz5)) (by rw [hJy]; exact HG5.out.node (J y) _ (List.getElem?_eq_getElem (ht5.lt y hyn)))
                clear hJy
                go_upto_region 19 with fail
                clear hnq
                obtain ⟨g1, g2, g3, g4, g5⟩ := HBASE.out
                obtain ⟨hlb, hvb, hDr, hlr, htr⟩ := HROW.out W5 g1
                obtain ⟨al', cl', he', -, hcl⟩ := hlr.open
                simp only [Value.slice.injEq, Option.some.injEq] at he'
                obtain ⟨hal, -, hcl'⟩ := he'
                subst hal hcl'
                obtain ⟨gl', offl', hg', hgl5, hly5⟩ := hcl y _ (tileCells_at hyn)
                simp only [Option.some.injEq, Addr.mk.injEq, and_true] at hg'
                obtain ⟨rfl, rfl⟩ := hg'
                have hnx : ∃ nx, W5.heap[bs9 (J x)]? = some (.cells (nodeCells bs5 nx) 234) ∧ nx.word = Cov.W f n 0 x := by
                  have hl := ht5.lt x hxn
                  have hgx : G5[J x]? = some G5[J x] := List.getElem?_eq_getElem hl
                  exact ⟨_, by rw [HJX.out]; exact HG5.out.node _ _ hgx, by rw [← Hy.wd_some hgx]; exact ht5.word x hxn⟩
                have hny : ∃ ny, W5.heap[bs9 (J y)]? = some (.cells (nodeCells bs5 ny) 234) ∧ ny.word = Cov.W f n 0 y := by
                  have hl := ht5.lt y hyn
                  have hgx : G5[J y]? = some G5[J y] := List.getElem?_eq_getElem hl
                  exact ⟨_, by rw [HJY.out]; exact HG5.out.node _ _ hgx, by rw [← Hy.wd_some hgx]; exact ht5.word y hyn⟩
                obtain ⟨nx, hnx, hwx⟩ := hnx
                obtain ⟨ny, hny, hwy⟩ := hny
                obtain ⟨Bp, hBp⟩ : ∃ Bp : Nat → Prop, Bp = fun b => (Value.slice ap cnt cp).ownBlock = some b := ⟨_, rfl⟩
                have nBp : ∀ q, q < W9.heap.size → ¬ Bp q := fun q hq hb => by rw [hBp] at hb; have := hE7.out q hb; omega
                have hw5 := g1.size
                have h9 := HLW9.out
                have nBt : ∀ m, m < n → ¬ Bp (bs9 (J m)) := fun m hm hb => by
                  rw [hBp] at hb
                  rw [← g3 m hm] at hb
                  exact (g2.lo (J m) (ht5.lt m hm)).2.2 hb
                have l1 := fun (yy : LaterB Bp W5) => (yy.cell xb 1 (by omega) (nBp xb (by omega))).trans (cell_of_heap g4 1)
                have l2 := fun (yy : LaterB Bp W5) => (yy.cell lb 0 (by omega) (nBp lb (by omega))).trans (cell_of_heap hlb 0)
                have l3 := fun (yy : LaterB Bp W5) => (yy.cell gl (offl + y) hgl5 (nBp gl (hlr9.lt _ rfl))).trans hly5
                have l4 := fun (yy : LaterB Bp W5) => (yy.cell (bs9 (J x)) 0 (Array.getElem?_eq_some_iff.1 hnx).1 (nBt x hxn)).trans (cell_of_heap hnx 0)
                have l5 := fun (yy : LaterB Bp W5) => (yy.cell (bs9 (J y)) 0 (Array.getElem?_eq_some_iff.1 hny).1 (nBt y hyn)).trans (cell_of_heap hny 0)
                simp only [nodeCells, List.getElem?_toArray, List.getElem?_cons_zero, List.getElem?_cons_succ] at l1 l2 l4 l5
                rw [hwx] at l4
                rw [hwy] at l5
                obtain ⟨wx, hwxe⟩ : ∃ wx, Value.string wx = str (Cov.W f n 0 x) := ⟨_, rfl⟩
                obtain ⟨wy, hwye⟩ : ∃ wy, Value.string wy = str (Cov.W f n 0 y) := ⟨_, rfl⟩
                rw [← hwxe] at l4
                rw [← hwye] at l5
                have HWX := Lib.hid (And.intro hwxe hwye)
                have HBP := Lib.hid hBp
                have HG4 := Lib.hid g4
                have HGD := Lib.hid (g5.later ((Below.refl W5.heap.size W5).drew))
                have HCN := Lib.hid (show cnt ≤ 900000000 from by
                  have h1 := Cov.pairsT_len o f n x
                  have h2 := Cov.pairsR_len o f n x i
                  have h3 := hE1.out
                  rw [List.length_append] at h3
                  omega)
                have HG3 := Lib.hid g3
                have HG2 := Lib.hid g2
                clear hlb hvb hDr hlr htr hcl hgl5 hly5 hnx hny hwx hwy hBp nBp hw5 h9 nBt hwxe hwye g1 g2 g3 g4 g5 HBASE
                refine wp_region_segs [([0, 1, 2, 3, 4, 5, 6, 7, 8, 9, 10, 11, 12, 13, 14, 15, 16, 17], [18, 19])] 20 (fun w' => ∃ y : LaterB Bp W5, w' = y.W) ⟨⟨W5.drew, (Only.refl _ _).drew⟩, rfl⟩ (by kernel_rfl) (by kernel_rfl) ?_
                simp only [List.map_cons, List.map_nil, pickOps, List.flatMap_cons, List.flatMap_nil, List.cons_append, List.nil_append, List.take_succ_cons, List.take_zero, List.drop_succ_cons, List.drop_zero, wpSegs]
                repeat (go_big_quiet_step (fail))
                refine wpQuiet_nil ?_
                clear l1 l2 l3 l4 l5
                refine wpG_step ?_
                intro K2 hK2
                go_wp2_with fail
                refine ⟨⟨⟨_, ((Only.refl _ _).alloc (fun k hk => .inr hk) _).drew⟩, rfl⟩, hK2 _ _ ?_⟩
                clear hK2
                refine wpG_step ?_
                intro K3 hK3
                go_wp2_with (at_builtin; refine wpList_gr W5.drew rowPair rfl _ _ rfl (v := .slice ap cnt cp) (xs := pairCells (pairsT o f n x ++ pairsR o f n x i)) rfl HGD.out _ [.string wx, .int .i64 i, .string wy, .int .i64 i] rfl rfl (by intro u hu; simp at hu; rcases hu with rfl | rfl | rfl | rfl <;> rfl) HCN.out ?_)
                intro v7 w7 hq7 ho7 hv7
                obtain ⟨a7, c7, hv7e, -⟩ := hq7.open
                subst hv7e
                have ho7' : Only (fun q => (Value.slice ap cnt cp).ownBlock = some q ∨ W5.heap.size ≤ q) W5 w7 := ((Only.refl _ W5).drew).trans ho7
                have hxb7 := (ho7'.block xb (by
                  rintro (h | h)
                  · have := hE7.out _ h; have := HLW9.out; omega
                  · have := (Array.getElem?_eq_some_iff.1 HG4.out).1; omega)).trans HG4.out
                go_wp2_with fail
                refine ⟨⟨⟨w7, by rw [HBP.out]; exact ho7'⟩, rfl⟩, hK3 _ _ ?_⟩
                clear hK3
                refine wpG_nil ?_
                have q0 := cell_of_heap hxb7 1
                have q1 := free_of_heap hxb7 1
                simp only [List.getElem?_toArray, List.getElem?_cons_zero, List.getElem?_cons_succ] at q0 q1
                have HQ7 := Lib.hid hq7; have HO7 := Lib.hid ho7'; have HV7 := Lib.hid hv7; have HXB7 := Lib.hid hxb7
                clear hq7 ho7 ho7' hv7 hxb7
                go_wp2_with fail
                clear q0 q1
                have hone8 : Only (fun q => q = xb) w7 (w7.setCell ⟨xb, 1, none⟩ (.slice a7 (cnt + 1) c7)) := only_one w7 xb 1 _
                have hxb8 : (w7.setCell ⟨xb, 1, none⟩ (.slice a7 (cnt + 1) c7)).heap[xb]? = some (.cells #[tv, .slice a7 (cnt + 1) c7] 129) := by
                  have h := heap_setCell_same w7 xb 1 _ _ (.slice a7 (cnt + 1) c7) HXB7.out
                  simpa using h
                generalize w7.setCell ⟨xb, 1, none⟩ (.slice a7 (cnt + 1) c7) = W8 at hone8 hxb8 ⊢
                have h9 := HLW9.out
                have h5 := hE7.out
                have hw5 : W9.heap.size ≤ W5.heap.size := Nat.le_trans HP.out.on.size HO5.out.size
                have ho58 : Only (fun q => (Value.slice ap cnt cp).ownBlock = some q ∨ W5.heap.size ≤ q ∨ q = xb) W5 W8 := (HO7.out.mono (fun q hq => hq.elim .inl (fun h => .inr (.inl h)))).trans (hone8.mono (fun q hq => .inr (.inr hq)))
                have hB9n : ∀ q, W9.heap.size ≤ q → B9 q := fun q hq => (HBB.out q).2 ⟨.inr hq, by omega, by omega, by have := HDD.out; omega, fun e => by have := hlr9.lt q e; omega, fun e => by have := HTVL.out q e; omega⟩
                have hv7 : ∀ b, (Value.slice a7 (cnt + 1) c7).ownBlock = some b → (Value.slice ap cnt cp).ownBlock = some b ∨ W5.heap.size ≤ b := HV7.out
                have hon5 : Only B9 W9 W5 := HP.out.on.trans (HO5.out.mono (fun q hq => by
                  rcases ((HB2.out q).1 hq).1 with h | h
                  · exact h
                  · exact hB9n q (by have := HP.out.on.size; omega)))
                have hp1 : pairs1 o f n x i = [((Cov.W f n 0 x, i), (Cov.W f n 0 y, i))] := by
                  unfold pairs1
                  rw [← HY.out, if_pos ⟨hxy, fun e => hzy (hsame.2 e)⟩]
                have hpc : pairCells (pairsT o f n x ++ pairsR o f n x (i + 1)) = pairCells (pairsT o f n x ++ pairsR o f n x i) ++ [.string wx, .int .i64 i, .string wy, .int .i64 i] := by
                  rw [Cov.pairsR_succ, hp1, ← List.append_assoc]
                  unfold pairCells
                  rw [List.flatMap_append, HWX.out.1, HWX.out.2]
                  rfl
                have HNX := Lib.hid (show CutP o f n xb pb tv bs9 J B9 W9 x (i + 1) W8 from ⟨hon5.trans (ho58.mono (fun q hq => by
                    rcases hq with h | h | h
                    · exact hB9n q (h5 q h)
                    · exact hB9n q (by omega)
                    · rw [h]; exact HBX.out)), bs5, G5, _, cnt + 1, by
                    rw [Cov.pairsR_succ, hp1, ← List.append_assoc, List.length_append, ← hE1.out]; rfl, HG2.out.to (ho58.block pb (by
                      rintro (h | h | h)
                      · have := h5 pb h; omega
                      · omega
                      · exact HPN.out.2.2.1 h)) (fun m hm => ho58.block _ (by
                      obtain ⟨e1, e2, e3⟩ := HG2.out.lo m hm
                      have e4 := HG2.out.lt hm
                      rintro (h | h | h)
                      · exact e3 h
                      · omega
                      · exact e2 h)) (fun m hm => by
                      obtain ⟨e1, e2, e3⟩ := HG2.out.lo m hm
                      have e4 := HG2.out.lt hm
                      refine ⟨e1, e2, fun e => ?_⟩
                      rcases hv7 _ e with h | h
                      · exact e3 h
                      · omega), ht5, HG3.out, hxb8, by
                    rw [hpc]
                    exact HQ7.out.only hone8 (fun b hb e => by
                      rcases hv7 b hb with h | h
                      · have := h5 b h; omega
                      · omega), fun b hb => by
                    rcases hv7 b hb with h | h
                    · exact h5 b h
                    · omega⟩)
                clear hone8 hxb8 ho58 hB9n hv7 hon5 hp1 hpc h9 h5 hw5
                go_roundw
                case rel => exact ⟨i + 1, by go_num, by omega, HNX⟩
                case measure => simp [intOf]; omega
            · have hxyi : ¬ (x : Int) ≤ (y : Int) := by omega
              go_upto_region 18 with fail
              clear m1 m2
              refine wp_region_segs [([0, 1, 2, 3, 4, 5, 6, 8, 9, 10, 11], [7])] 12 (fun w' => ∃ y : LaterB B9 wr, w' = y.W) ⟨⟨wr.drew, (Only.refl _ _).drew⟩, rfl⟩ (by kernel_rfl) (by kernel_rfl) ?_
              simp only [List.map_cons, List.map_nil, pickOps, List.flatMap_cons, List.flatMap_nil, List.cons_append, List.nil_append, List.take_succ_cons, List.take_zero, List.drop_succ_cons, List.drop_zero, wpSegs]
              repeat (go_big_quiet_step (fail))
              refine wpQuiet_nil ?_
              refine wpG_step ?_
              intro K2 hK2
              go_wp2_with fail
              refine ⟨⟨⟨wr.drew, (Only.refl _ _).drew⟩, rfl⟩, hK2 _ _ ?_⟩
              clear hK2
              refine wpG_nil ?_
              have hp1 : pairs1 o f n x i = [] := by
                unfold pairs1
                rw [← HY.out, if_neg (fun h => hxy h.1)]
              have HNX := Lib.hid (show CutP o f n xb pb tv bs9 J B9 W9 x (i + 1) wr.drew from ⟨HP.out.on.drew, bs, G, _, cnt, by rw [Cov.pairsR_succ, hp1, List.append_nil]; exact hE1.out, hE2.out.drew, hE3.out, hE4.out, hE5.out, by rw [Cov.pairsR_succ, hp1, List.append_nil]; exact hE6.out.later ((Below.refl _ _).drew), hE7.out⟩)
              clear hp1
              go_wp2_with fail
              go_roundw
              case rel => exact ⟨i + 1, by go_num, by omega, HNX⟩
              case measure => simp [intOf]; omega
          · obtain rfl : i = 3 := by omega
            have hii : ¬ ((3 : Nat) : Int) < 3 := by omega
            go_wp2_with fail
            go_roundw
            case rel => exact ⟨x + 1, by go_num, by omega, Lib.hid ⟨HP.out.on, by
              have h := HP.out.st
              rw [Cov.pairsT_succ, show pairsR o f n (x + 1) 0 = [] from rfl, List.append_nil]
              exact h⟩⟩
            case measure => simp [intOf]; omega
      · obtain rfl : x = n := by omega
        have hxi : ¬ (x : Int) < (x : Int) := by omega
        obtain ⟨bs, G, pv, cnt, e1, e2, e3, e4, e5, e6, e7⟩ := HP.out.st
        obtain ⟨hlb, hvb, hDr, hlr, htr⟩ := HROW.out wr HP.out.on
        obtain ⟨ap, cp, hpe, -⟩ := e6.open
        subst hpe
        obtain ⟨at_, ct, hte, -⟩ := htr.open
        subst hte
        have hres : wr.heap[w.heap.size + 1 + 1]? = some (.cells #[.slice none 0 0, .slice none 0 0] 129) := by
          have h := HS1.out
          have h2 := HZ.out
          refine (HP.out.on.block _ (fun h => by have := HLO9.out _ h; omega)).trans ((HO9.out.block _ (by
            rintro (h | h)
            · omega
            · omega)).trans ((HB4.out.block _ (by omega)).trans HQ32.out))
        have k0 := cell_of_heap e5 0
        have k1 := cell_of_heap e5 1
        have r0 := cell_of_heap hres 0
        have r1 := cell_of_heap hres 1
        have f0 := free_of_heap hres 0
        have f1 := free_of_heap hres 1
        simp only [List.getElem?_toArray, List.getElem?_cons_zero, List.getElem?_cons_succ] at k0 k1 r0 r1 f0 f1
        have HRES := Lib.hid hres
        have HDR := Lib.hid hDr
        have HE6 := Lib.hid e6; have HE7 := Lib.hid e7; have HTR := Lib.hid htr; have HE1 := Lib.hid e1
        clear hlb hvb hDr hlr htr e1 e2 e3 e4 e5 e6 e7 hres
        go_wp2_with fail
        clear k0 k1 r0 r1 f0 f1
        have hone : Only (fun q => q = w.heap.size + 1 + 1) wr ((wr.setCell ⟨w.heap.size + 1 + 1, 0, none⟩ (.slice at_ x ct)).setCell ⟨w.heap.size + 1 + 1, 1, none⟩ (.slice ap cnt cp)) := (only_one wr _ 0 _).trans (only_one _ _ 1 _)
        have h9 : ((wr.setCell ⟨w.heap.size + 1 + 1, 0, none⟩ (.slice at_ x ct)).setCell ⟨w.heap.size + 1 + 1, 1, none⟩ (.slice ap cnt cp)).heap[w.heap.size + 1 + 1]? = some (.cells #[.slice at_ x ct, .slice ap cnt cp] 129) := by
          have h0 := heap_setCell_same wr (w.heap.size + 1 + 1) 0 _ _ (.slice at_ x ct) HRES.out
          have h1 := heap_setCell_same _ (w.heap.size + 1 + 1) 1 _ _ (.slice ap cnt cp) h0
          simpa using h1
        generalize (wr.setCell ⟨w.heap.size + 1 + 1, 0, none⟩ (.slice at_ x ct)).setCell ⟨w.heap.size + 1 + 1, 1, none⟩ (.slice ap cnt cp) = W8 at hone h9 ⊢
        have hz := HZ.out
        have hw9 := HP.out.on.size
        have hO9 := HO9.out.size
        have hdd := HDD.out
        have hK9 := (hone.block D (by omega)).trans HDR.out
        have hnone : Only (fun x => x = D) W8 (W8.putObj D (.deferred none)) := only_putObj (B := fun x => x = D) W8 rfl _
        have q9 := (hnone.block (w.heap.size + 1 + 1) (by omega)).trans h9
        have r0 := cell_of_heap q9 0
        have r1 := cell_of_heap q9 1
        simp only [List.getElem?_toArray, List.getElem?_cons_zero, List.getElem?_cons_succ] at r0 r1
        refine post_marks1 (v := .agg #[.slice at_ x ct, .slice ap cnt cp]) rfl hK9 (by simp [results, Tryz.results74, go_sem, r0, r1]) ?_
        have hall := (hone.mono (fun x hx => Or.inl hx)).trans (hnone.mono (fun q (hq : q = D) => (Or.inr hq : q = w.heap.size + 1 + 1 ∨ q = D)))
        have htge : ∀ b, (Value.slice at_ x ct).ownBlock = some b → w.heap.size + 3 ≤ b := fun b hb => HLOW.out b (HTV.out b hb).1
        have hpge : ∀ b, (Value.slice ap cnt cp).ownBlock = some b → w.heap.size + 3 ≤ b := fun b hb => by have := HE7.out b hb; omega
        have hlenE : (pairsT o f x x ++ pairsR o f x x 0) = pairsT o f x x := by simp [pairsR]
        have hE6 := HE6.out
        have hE1 := HE1.out
        rw [hlenE] at hE6 hE1
        refine ⟨_, _, rfl, HTR.out.only hall (fun b hb h => ?_), ?_, ?_, fun b hb => by have := htge b hb; omega, fun b hb => by have := hpge b hb; omega⟩
        · have h1 := htge b hb
          have h2 := HTVL.out b hb
          rcases h with h | h
          · omega
          · subst h
            rcases HTR.out with ⟨_, h3, _⟩ | ⟨g, off, cap, h4, h5, _, h6, h7, _, h8⟩
            · omega
            · simp only [Value.slice.injEq] at h4
              obtain ⟨rfl, -, -⟩ := h4
              simp [Value.ownBlock] at hb
              subst hb
              have := h7 0 (str (Cov.W f x 0 0)) (by unfold wordCells; rw [List.getElem?_map, List.getElem?_range (by omega)]; rfl)
              simp [World.cell?, HDR.out] at this
        · rw [← hE1]
          refine hE6.only hall (fun b hb h => ?_)
          have h1 := hpge b hb
          have h2 := HE7.out b hb
          rcases h with h | h <;> omega
        · exact ((((HBW.out.trans (HB4.out.mono HBW.out.size)).trans (HO9.out.below (fun q hq => by
            rcases hq with hq | hq
            · omega
            · have := HBW.out.size; omega))).trans (HP.out.on.below (fun q hq => by have := HLO9.out q hq; omega))).trans (hall.below (fun q hq => by
            rcases hq with hq | hq
            · omega
            · omega)))
end Go.Proofs.YtfdklmpkienfhaaGreat
