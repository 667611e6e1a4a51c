import Derived.Test.YtdckpjagmbdkgaaR4
import Derived.BigRegion
import Derived.WalkLawsBesides
import Derived.WalkSmall
import Derived.Deep.CutRange
import Derived.Test.YtdckpjagmbdkgaaLds
import Derived.Deep.RegionLaw
import Derived.Deep.AppendLies

/- The growing graph of package tiles in memory: its small functions; the graph as cells. -/
namespace Go.Proofs.Ytdckpjagmbdkgaa
set_option linter.unusedSimpArgs false
set_option linter.unusedVariables false
open Go.RowKit

/-- The graph in memory. -/
structure TG (w : World) (o : Hy.Ord) (B : Nat → Prop) (gb rb : Nat) (v : Value) (G : List Hy.Node) : Prop where
  graph : w.heap[gb]? = some (.cells #[.int .i64 o.m01, .int .i64 o.m12, .int .i64 o.m02, v] 70 (0, 0))
  row : QRow w rb 8 v G.length (flat G)
  ne : gb ≠ rb
  lo : B gb ∧ B rb
  closed : ∀ (i : Nat) (n : Hy.Node) (s j : Nat), G[i]? = some n → n.to s = some j → j < G.length

theorem TG.drew {w : World} {o : Hy.Ord} {B : Nat → Prop} {gb rb : Nat} {v : Value} {G : List Hy.Node} (h : TG w o B gb rb v G) : TG w.drew o B gb rb v G :=
  ⟨h.graph, h.row.of_heap rfl (Nat.le_refl _), h.ne, h.lo, h.closed⟩

theorem TG.heap {w w' : World} {o : Hy.Ord} {B : Nat → Prop} {gb rb : Nat} {v : Value} {G : List Hy.Node} (h : TG w o B gb rb v G) (hb : Below w.heap.size w w') : TG w' o B gb rb v G := by
  have h1 : gb < w.heap.size := (Array.getElem?_eq_some_iff.1 h.graph).1
  have h2 : rb < w.heap.size := by obtain ⟨_, _, _, _, _, _, _, _, h7⟩ := h.row; exact h7
  exact ⟨(hb.block gb h1).trans h.graph, h.row.of_heap (hb.block rb h2) hb.size, h.ne, h.lo, h.closed⟩

def T04Post (o : Hy.Ord) (B : Nat → Prop) (gb : Nat) (G G' : List Hy.Node) (y : Nat) (w : World) (e : Ending) (w' : World) : Prop :=
  ∃ rb' v', e = .returned (.int .i64 y) ∧ TG w' o B gb rb' v' G' ∧ Only B w w' ∧ G.length ≤ G'.length ∧ y < G'.length

theorem TG.opened {w : World} {o : Hy.Ord} {B : Nat → Prop} {gb rb : Nat} {v : Value} {G : List Hy.Node} (h : TG w o B gb rb v G) : ∃ off cap, v = .slice (some ⟨rb, off, none⟩) G.length cap ∧ w.cell? ⟨gb, 3, none⟩ = some (.slice (some ⟨rb, off, none⟩) G.length cap) ∧
    (∀ i n, G[i]? = some n → NodeAt w rb (off + i * 8) n) ∧ gb ≠ rb ∧ gb < w.heap.size ∧ rb < w.heap.size := by
  have hg := cell_of_heap (k := 3) h.graph
  have hgl : gb < w.heap.size := (Array.getElem?_eq_some_iff.1 h.graph).1
  obtain ⟨off, cap, hv, h2, h3, h4, h5, h6, h7⟩ := h.row
  refine ⟨off, cap, hv, ?_, fun i n hi => ?_, h.ne, hgl, h7⟩
  · rw [hg, hv]; rfl
  · have key : ∀ j, j < 8 → w.cell? ⟨rb, off + (i * 8 + j), none⟩ = (r03cells n)[j]? := fun j hj => by
      have := flat_get hi hj
      have hl : j < (r03cells n).length := hj
      rw [List.getElem?_eq_getElem hl] at this ⊢
      exact h5 _ _ this
    have hil : i < G.length := (List.getElem?_eq_some_iff.1 hi).1
    refine ⟨?_, fun s hs => ?_, fun s hs => ?_, ?_, fun j hj => ?_⟩
    · have := key 0 (by omega)
      rw [Nat.add_zero] at this; exact this
    · rw [show off + i * 8 + 1 + s = off + (i * 8 + (1 + s)) by omega, key _ (by omega)]
      obtain rfl | rfl | rfl : s = 0 ∨ s = 1 ∨ s = 2 := by omega
      all_goals rfl
    · rw [show off + i * 8 + 4 + s = off + (i * 8 + (4 + s)) by omega, key _ (by omega)]
      obtain rfl | rfl | rfl : s = 0 ∨ s = 1 ∨ s = 2 := by omega
      all_goals rfl
    · rw [show off + i * 8 + 7 = off + (i * 8 + 7) by omega, key 7 (by omega)]; rfl
    · rw [show off + i * 8 + j = off + (i * 8 + j) by omega]
      exact (h6 _ (by omega)).2

/-- A cell of a node is written. -/
theorem TG.put {w : World} {o : Hy.Ord} {B : Nat → Prop} {gb rb off cap : Nat} {G : List Hy.Node} (h : TG w o B gb rb (.slice (some ⟨rb, off, none⟩) G.length cap) G) {i : Nat} {n n' : Hy.Node} (hi : G[i]? = some n) {j : Nat} (hj : j < 8) {u : Value}
    (hn : r03cells n' = (r03cells n).set j u) (hc : ∀ s k, n'.to s = some k → k < G.length) : TG (w.setCell ⟨rb, off + i * 8 + j, none⟩ u) o B gb rb (.slice (some ⟨rb, off, none⟩) G.length cap) (G.set i n') := by
  have hil : i < G.length := (List.getElem?_eq_some_iff.1 hi).1
  refine ⟨?_, ?_, h.ne, h.lo, fun a m s k ha hk => ?_⟩
  · have : (w.setCell ⟨rb, off + i * 8 + j, none⟩ u).heap[gb]? = w.heap[gb]? := Below.heap_setCell _ _ _ _ h.ne
    rw [this]; exact h.graph
  · rw [List.length_set, show off + i * 8 + j = off + (i * 8 + j) by omega, flat_set hi hj hn]
    exact h.row.set rfl (by rw [flat_length]; omega) u
  · rw [List.length_set]
    rw [List.getElem?_set] at ha
    by_cases hia : i = a
    · subst hia
      rw [if_pos rfl, if_pos hil] at ha
      cases ha
      exact hc s k hk
    · rw [if_neg hia] at ha
      exact h.closed a m s k ha hk

set_option maxRecDepth 100000 in
set_option maxHeartbeats 1000000 in
theorem t04_step_known {w : World} {o : Hy.Ord} {B : Nat → Prop} {gb rb : Nat} {v : Value} {G : List Hy.Node} (h : TG w o B gb rb v G) {x s y : Nat} (hs : s < 3) {n : Hy.Node} (hx : G[x]? = some n) (hy : n.to s = some y) :
    Calls Try.prog 46 #[.pointer (some ⟨gb, 0, none⟩), .int .i64 x, .int .i64 s] w (T04Post o B gb G G y w) := by
  have hP : T04Post o B gb G G y w (.returned (.int .i64 y)) w := ⟨rb, v, rfl, h, Only.refl _ _, Nat.le_refl _, h.closed x n s y hx hy⟩
  have hxl : x < G.length := (List.getElem?_eq_some_iff.1 hx).1
  obtain ⟨off, cap, rfl, hg, hnode, _⟩ := h.opened
  have hc := (hnode x n hx).nto s hs
  rw [hy] at hc
  unfold ix at hc
  simp only at hc
  have HP := Lib.hid hP; clear hP
  have HX := Lib.hid hx; clear hx
  have HY := Lib.hid hy; clear hy
  clear hnode h
  go_enter Try.func46, Try.ntmps46
  go_wp2_with fail
  go_ret
  exact HP.out

theorem infoNode4 : (Try.prog.info? 67).map (fun i => (i.zero, i.size, i.bytes)) = some (some (.agg #[.int .i64 0, .int .i64 0, .int .i64 0, .int .i64 0, .bool false, .bool false, .bool false, .string ⟨#[]⟩]), 8, 56) := by kernel_rfl

/-- A cell of a node is written: what the walk asks, and what it leaves. -/
theorem TG.write {w : World} {o : Hy.Ord} {B : Nat → Prop} {gb rb off N cap : Nat} {G : List Hy.Node} (h : TG w o B gb rb (.slice (some ⟨rb, off, none⟩) N cap) G) (hN : N = G.length) {i : Nat} {n n' : Hy.Node} (hi : G[i]? = some n) {j : Nat} (hj : j < 8) (u : Value)
    (hn : r03cells n' = (r03cells n).set j u) (hc : ∀ s k, n'.to s = some k → k < G.length) :
    w.cell? ⟨gb, 3, none⟩ = some (.slice (some ⟨rb, off, none⟩) N cap) ∧ (∃ u0, w.cell? ⟨rb, off + i * 8 + j, none⟩ = some u0 ∧ (r03cells n)[j]? = some u0) ∧ w.frozen? ⟨rb, off + i * 8 + j, none⟩ = false ∧
      TG (w.setCell ⟨rb, off + i * 8 + j, none⟩ u) o B gb rb (.slice (some ⟨rb, off, none⟩) N cap) (G.set i n') ∧ Only B w (w.setCell ⟨rb, off + i * 8 + j, none⟩ u) := by
  subst hN
  have hil : i < G.length := (List.getElem?_eq_some_iff.1 hi).1
  obtain ⟨off', cap', hv, hg, hnode, _⟩ := h.opened
  have hh : off = off' ∧ cap = cap' := by simpa using hv
  obtain ⟨rfl, rfl⟩ := hh
  refine ⟨hg, ?_, (hnode i n hi).nfree j hj, h.put hi hj hn hc, (Only.refl B w).setCell (p := ⟨rb, off + i * 8 + j, none⟩) h.lo.2 u⟩
  have hl : j < (r03cells n).length := hj
  have h0 := flat_get hi hj
  rw [List.getElem?_eq_getElem hl] at h0 ⊢
  obtain ⟨off'', cap'', hv'', _, _, _, h5, _⟩ := h.row
  have hh : off = off'' ∧ cap = cap'' := by simpa using hv''
  obtain ⟨rfl, rfl⟩ := hh
  refine ⟨_, ?_, rfl⟩
  rw [Nat.add_assoc]
  exact h5 _ _ h0

/-- The graph behind the append. -/
theorem rep_append4 {w W1 w9 : World} {o : Hy.Ord} {B : Nat → Prop} {gb rb off cap : Nat} {G : List Hy.Node} (H : TG w o B gb rb (.slice (some ⟨rb, off, none⟩) G.length cap) G) (HB : Free B w) (HB2 : Below w.heap.size w W1) {x s : Nat} (hxl : x < G.length) {l : List UInt8} {n' : Hy.Node}
    (HN' : n' = Hy.setDown s (Hy.setTo s x (Hy.fresh l))) {g9 off9 cap9 : Nat} (HH9 : w9.heap[gb]? = some (.cells #[.int .i64 o.m01, .int .i64 o.m12, .int .i64 o.m02, .slice (some ⟨rb, off, none⟩) G.length cap] 70 (0, 0)))
    (HQ9 : QRow w9 g9 8 (.slice (some ⟨g9, off9, none⟩) (G.length + 1) cap9) (G.length + 1) (flat G ++ r03cells n')) {N : Nat} (hN : W1.heap.size ≤ N) (HO9 : Only (fun k => k = rb ∨ N ≤ k) (W1.alloc (.cells (r03cells n').toArray 67)).drew w9) (HG9 : g9 = rb ∨ N ≤ g9) :
    TG (w9.setCell ⟨gb, 3, none⟩ (.slice (some ⟨g9, off9, none⟩) (G.length + 1) cap9)) o B gb g9 (.slice (some ⟨g9, off9, none⟩) (G.length + 1) cap9) (G ++ [n']) ∧ Only B w (w9.setCell ⟨gb, 3, none⟩ (.slice (some ⟨g9, off9, none⟩) (G.length + 1) cap9)) := by
  have hgl : gb < w.heap.size := (Array.getElem?_eq_some_iff.1 H.graph).1
  have hgs1 := HB2.size
  have hgr : gb ≠ g9 := by
    rcases HG9 with h | h
    · rw [h]; exact H.ne
    · omega
  have hOw : Only B w w9 := by
    have h1 : Only B w (W1.alloc (.cells (r03cells n').toArray 67)).drew := ((Only.of_below HB2 (fun k hk => HB k hk)).alloc (fun k hk => HB k (by omega)) _).drew
    refine h1.trans (HO9.mono ?_)
    rintro k (rfl | hk)
    · exact H.lo.2
    · exact HB k (by omega)
  refine ⟨⟨?_, ?_, hgr, ⟨H.lo.1, ?_⟩, ?_⟩, ?_⟩
  · exact heap_setCell_same _ _ _ _ _ _ HH9
  · rw [flat_append, List.length_append]
    exact HQ9.of_heap (Below.heap_setCell _ _ _ _ (Ne.symm hgr)) (by simp [World.setCell])
  · rcases HG9 with h | h
    · rw [h]; exact H.lo.2
    · exact HB g9 (by omega)
  · intro i m t j hi hj
    rw [List.length_append]
    show j < G.length + 1
    by_cases hil : i < G.length
    · rw [List.getElem?_append_left hil] at hi
      have := H.closed i m t j hi hj
      omega
    · have hie : i = G.length := by
        have := (List.getElem?_eq_some_iff.1 hi).1
        simp at this; omega
      subst hie
      simp at hi
      subst hi
      rw [HN'] at hj
      unfold Hy.setDown Hy.setTo Hy.fresh at hj
      simp only at hj
      by_cases hts : t = s
      · rw [if_pos hts] at hj; cases hj; omega
      · rw [if_neg hts] at hj; cases hj
  · exact hOw.setCell (p := ⟨gb, 3, none⟩) H.lo.1 _

/-- What the recursion may use. -/
def T04IH (o : Hy.Ord) (B : Nat → Prop) (gb lim : Nat) (f : List Hy.Node → Nat → Nat → Option (List Hy.Node × Nat)) : Prop :=
  ∀ (w : World) (rb : Nat) (v : Value) (G : List Hy.Node) (x s : Nat) (G' : List Hy.Node) (y : Nat), TG w o B gb rb v G → Free B w → s < 3 → f G x s = some (G', y) → G'.length ≤ lim →
    Calls Try.prog 46 #[.pointer (some ⟨gb, 0, none⟩), .int .i64 x, .int .i64 s] w (T04Post o B gb G G' y w)

set_option maxRecDepth 100000 in
set_option maxHeartbeats 1000000 in
theorem t04_letter (i : Nat) (hi : i < 256) (w : World) :
    Calls Try.prog 73 #[.int .i64 i] w fun e w' => e = .returned (str (Hy.letter i)) ∧ w' = w.alloc (.cells #[.int .u8 i] 5) := by
  have kl := run_letter (w.alloc (.cells #[.int .u8 i] 5)) w.heap.size i (by simp)
  have hcm : IntKind.u8.wrap (i : Int) = (i : Int) := by simp [IntKind.wrap, IntKind.bits, IntKind.signed]; omega
  unfold str at *
  go_enter Try.func73, Try.ntmps73
  go_wp2_with fail
  go_ret
  exact ⟨rfl, rfl⟩

theorem t04_turn (a b : Int) (n : Nat) (hn : n ≤ 100) (w : World) :
    Calls Try.prog 47 #[.int .i64 a, .int .i64 b, .int .i64 n] w fun e w' => e = .returned (.int .i64 (if n % 2 = 0 then a else b)) ∧ w = w' := by
  have i0 : ∀ W, (Instr.index 93 (.agg #[.int .i64 a, .int .i64 b]) (.int .i64 0)).run Try.prog W = .ok (.int .i64 a) W := fun _ => by kernel_rfl
  have i1 : ∀ W, (Instr.index 93 (.agg #[.int .i64 a, .int .i64 b]) (.int .i64 1)).run Try.prog W = .ok (.int .i64 b) W := fun _ => by kernel_rfl
  go_enter Try.func47, Try.ntmps47
  by_cases h : n % 2 = 0
  · have h1 : (n : Int) % 2 = 0 := by omega
    rw [if_pos h]
    clear h
    go_wp2_with fail
    go_ret
    exact ⟨rfl, rfl⟩
  · have h1 : (n : Int) % 2 = 1 := by omega
    rw [if_neg h]
    clear h
    go_wp2_with fail
    go_ret
    exact ⟨rfl, rfl⟩

theorem run_index4 (a b c d m : Int) (k : Nat) (h : [a, b, c, d][k]? = some m) (w : World) : (Instr.index 124 (.agg #[.int .i64 a, .int .i64 b, .int .i64 c, .int .i64 d]) (.int .i64 k)).run Try.prog w = .ok (.int .i64 m) w := by
  obtain rfl | rfl | rfl | rfl : k = 0 ∨ k = 1 ∨ k = 2 ∨ k = 3 := by have := (List.getElem?_eq_some_iff.1 h).1; simp at this; omega
  all_goals
    simp at h
    subst h
    kernel_rfl

/-- The order of two mirrors. -/
theorem t04_order {w : World} {o : Hy.Ord} {gb : Nat} {v : Value} (hg : w.heap[gb]? = some (.cells #[.int .i64 o.m01, .int .i64 o.m12, .int .i64 o.m02, v] 70 (0, 0))) (i j : Nat) (hi : i < 3) (hj : j < 3) (hij : i ≠ j) :
    Calls Try.prog 40 #[.pointer (some ⟨gb, 0, none⟩), .int .i64 i, .int .i64 j] w fun e w' => e = .returned (.int .i64 (o.m i j)) ∧ Below w.heap.size w w' := by
  have q0 := cell_of_heap hg 0
  have q1 := cell_of_heap hg 1
  have q2 := cell_of_heap hg 2
  simp at q0 q1 q2
  clear hg
  have hix : ∀ W, (Instr.index 124 (.agg #[.int .i64 0, .int .i64 o.m01, .int .i64 o.m02, .int .i64 o.m12]) (.int .i64 ((i : Int) + j))).run Try.prog W = .ok (.int .i64 (o.m i j)) W := by
    intro W
    obtain h | h | h : i + j = 1 ∨ i + j = 2 ∨ i + j = 3 := by omega
    · have h2 : o.m i j = o.m01 := by unfold Hy.Ord.m; rw [if_pos h]
      have h3 : (i : Int) + j = 1 := by omega
      rw [h2, h3]
      exact run_index4 0 o.m01 o.m02 o.m12 _ 1 rfl W
    · have h2 : o.m i j = o.m02 := by unfold Hy.Ord.m; rw [if_neg (by omega), if_pos h]
      have h3 : (i : Int) + j = 2 := by omega
      rw [h2, h3]
      exact run_index4 0 o.m01 o.m02 o.m12 _ 2 rfl W
    · have h2 : o.m i j = o.m12 := by unfold Hy.Ord.m; rw [if_neg (by omega), if_neg (by omega)]
      have h3 : (i : Int) + j = 3 := by omega
      rw [h2, h3]
      exact run_index4 0 o.m01 o.m02 o.m12 _ 3 rfl W
  generalize o.m i j = m at *
  go_enter Try.func40, Try.ntmps40
  go_wp2_with fail
  go_quiet (fail)
  go_wp2_with fail
  go_ret
  exact ⟨rfl, below_drewN (Below.refl _ _) _⟩

end Go.Proofs.Ytdckpjagmbdkgaa

/- The step of the growing graph of package tiles: a corner is looked at. -/
namespace Go.Proofs.Ytdckpjagmbdkgaa
set_option linter.unusedSimpArgs false
set_option linter.unusedVariables false
open Go.RowKit

/-- A corner has been looked at. -/
def ClosePost (o : Hy.Ord) (B : Nat → Prop) (gb : Nat) (G G1 : List Hy.Node) (w : World) (e : Ending) (w' : World) : Prop :=
  ∃ rb' v', e = .returned (.tuple #[]) ∧ TG w' o B gb rb' v' G1 ∧ Only B w w' ∧ G.length ≤ G1.length

theorem run_min_str (a b : List UInt8) (t : Nat) (w : World) : (Builtin.min_ #[9, 9] 9 #[.string ⟨a.toArray⟩, .string (⟨b.toArray⟩ ++ ⟨#[UInt8.ofNat t]⟩)]).run Try.prog w =
    .ok (.string ⟨(if Hy.less (b ++ Hy.letter t) a = true then b ++ Hy.letter t else a).toArray⟩) w := by
  have e : ((⟨b.toArray⟩ : ByteArray) ++ ⟨#[UInt8.ofNat t]⟩) = ⟨(b ++ Hy.letter t).toArray⟩ := bytes_add b (Hy.letter t)
  rw [e]
  generalize b ++ Hy.letter t = n
  have hle : (Op.bytesLess a n || a == n) = !Hy.less n a := by
    rw [less_eq]
    cases hl : Hy.less n a with
    | true =>
      have h1 := Hy.less_asymm hl
      have h2 : a ≠ n := by rintro rfl; rw [Hy.less_irrefl] at hl; cases hl
      simp [h1, h2]
    | false =>
      cases h1 : Hy.less a n with
      | true => rfl
      | false =>
        have h2 := Hy.less_total h1 hl
        simp [h2]
  simp [Builtin.min_, Builtin.min2, Op.stringOp, Sem.run_bind, Result.andThen, ByteArray_toList, hle, asBool]
  cases Hy.less n a <;> rfl

set_option maxRecDepth 100000 in
set_option maxHeartbeats 16000000 in
theorem t04_close {w : World} {o : Hy.Ord} (ho : Small o) {B : Nat → Prop} {gb rb : Nat} {v : Value} {Gr : List Hy.Node} (h : TG w o B gb rb v Gr) (hB : Free B w) {x y s t : Nat} (hs : s < 3) (ht3 : t < 3) (hts : t ≠ s) (hxl : x < Gr.length) (hyl : y < Gr.length)
    {lim : Nat} (hlim : lim ≤ 1000000000) {f : List Hy.Node → Nat → Nat → Option (List Hy.Node × Nat)} (ih : T04IH o B gb lim f) (hf : Longer f) {G1 : List Hy.Node} (hc : Hy.cornerL 1000 o f x s y Gr t = some G1) (hG1 : G1.length ≤ lim) :
    Calls Try.prog 74 #[.pointer (some ⟨gb, 0, none⟩), .int .i64 x, .int .i64 y, .int .i64 s, .int .i64 t] w (ClosePost o B gb Gr G1 w) := by
  have HORD := Lib.hid (t04_order h.graph s t hs ht3 (Ne.symm hts))
  have HR := Lib.hid h; clear h
  have IH := Lib.hid ih; clear ih
  have HB := Lib.hid hB; clear hB
  have HL := Lib.hid hG1; clear hG1
  have HF := Lib.hid hf; clear hf
  rcases corner_three hc with ⟨h1, h2⟩ | ⟨h1, h2, h4⟩ | ⟨m, R, h1, h2, h4, hT⟩
  · exact absurd h1 hts
  · subst h4
    rw [h2] at HORD
    clear h1 h2 hc
    go_enter Try.func74, Try.ntmps74
    go_wp2_with fail
    refine HORD.out.mono ?_
    rintro e w1 ⟨rfl, hB1⟩
    have hR1 := HR.out.heap hB1
    have hO1 : Only B w w1 := Only.of_below hB1 HB.out
    have HR1 := Lib.hid hR1
    have HO1 := Lib.hid hO1
    clear hR1 hO1 hB1 HORD
    go_wp2_with fail
    go_loop [22] (fun k => k = .int .i64 0) (fun _ => 0)
    case atStart => rfl
    case round =>
      subst hrel
      go_wp2_with fail
      go_end0
      exact ⟨rb, v, rfl, HR1.out, HO1.out, Nat.le_refl _⟩
  · have HTT := Lib.hid hT; clear hT
    have hm12 : m + 1 ≤ 12 := by have := ho.a; have := ho.b; have := ho.c; rw [← h2]; unfold Hy.Ord.m; split; assumption; split <;> assumption
    rw [h2, show ((m + 1 : Nat) : Int) = (m : Int) + 1 by omega] at HORD
    have H4 := Lib.hid h4; clear h4
    have hlrG : Gr.length ≤ lim := Nat.le_trans (cornerL_len HF.out hc) HL.out
    clear h1 h2 hc
    go_enter Try.func74, Try.ntmps74
    go_wp2_with fail
    refine HORD.out.mono ?_
    rintro e w2 ⟨rfl, hB2⟩
    have hR2 := HR.out.heap hB2
    have hO2 : Only B w w2 := Only.of_below hB2 HB.out
    obtain ⟨off3, cap3, rfl, hg3, hnode3, hne3, hgl3, hrl3⟩ := hR2.opened
    have HR2' := Lib.hid hR2; clear hR2
    have HO2' := Lib.hid hO2; clear hO2
    have HN3 := Lib.hid hnode3; clear hnode3 hB2 HORD
    have g2 : ((m : Int) + 1 == 0) = false := by rw [beq_eq_false_iff_ne]; omega
    go_wp2_with fail
    go_loop [11, 22] (fun pv kv => ∃ (k p : Nat), k ≤ m ∧ p < Gr.length ∧ pv = .int .i64 p ∧ kv = .int .i64 k ∧ Hid (Hy.lowest Gr (m - k) p (if k % 2 = 0 then t else s) (if k % 2 = 0 then s else t) = some R)) (fun _ kv => m + 1 - (intOf kv).toNat)
    case atStart => exact ⟨0, x, Nat.zero_le _, hxl, rfl, rfl, H4⟩
    case round =>
      obtain ⟨k, p, hk, hp, rfl, rfl, HL1⟩ := hrel
      by_cases hkm : k < m
      · have hlow := HL1.out
        obtain ⟨j, hj⟩ : ∃ j, m - k = j + 1 := ⟨m - k - 1, by omega⟩
        rw [hj] at hlow
        unfold Hy.lowest at hlow
        have hn : Gr[p]? = some Gr[p] := List.getElem?_eq_getElem hp
        rw [hn] at hlow
        simp only at hlow
        have hoth := fun W => t04_turn (t : Int) (s : Int) k (by omega) W
        obtain ⟨c, hc⟩ : ∃ c, c = (if k % 2 = 0 then t else s) := ⟨_, rfl⟩
        have hc' : (if k % 2 = 0 then s else t) = (if (k + 1) % 2 = 0 then t else s) := by
          by_cases hp2 : k % 2 = 0
          · rw [if_pos hp2, if_neg (by omega)]
          · rw [if_neg hp2, if_pos (by omega)]
        have hc'' : c = (if (k + 1) % 2 = 0 then s else t) := by
          rw [hc]
          by_cases hp2 : k % 2 = 0
          · rw [if_pos hp2, if_neg (by omega)]
          · rw [if_neg hp2, if_pos (by omega)]
        have hci : (if k % 2 = 0 then (t : Int) else (s : Int)) = (c : Int) := by rw [hc]; split <;> rfl
        rw [hci] at hoth
        rw [← hc] at hlow
        rw [hc', hc''] at hlow
        rw [← hc''] at hlow
        have hc3 : c < 3 := by rw [hc]; split <;> omega
        have HOTH := Lib.hid hoth; clear hoth
        have HC3 := Lib.hid hc''; clear hc'' hc' hc hci
        have d1 := (HN3.out p Gr[p] hn).ndown c hc3
        have d2 := (HN3.out p Gr[p] hn).nto c hc3
        cases hd : Gr[p].down c with
        | true =>
          rw [hd] at hlow d1
          simp only [if_true] at hlow
          cases hto : Gr[p].to c with
          | none => rw [hto] at hlow; cases hlow
          | some p' =>
            rw [hto] at hlow d2
            simp only at hlow
            unfold ix at d2
            simp only at d2
            have hp' := HR2'.out.closed p Gr[p] c p' hn hto
            rw [show j = m - (k + 1) by omega] at hlow
            have HLO := Lib.hid hlow; clear hlow
            clear hd hto hn hj
            go_wp2_with fail
            refine (HOTH.out _).mono ?_
            rintro e w3 ⟨rfl, rfl⟩
            clear HOTH
            go_wp2_with fail
            go_round
            case rel => exact ⟨k + 1, p', by omega, hp', rfl, by go_num, by rw [← HC3.out]; exact HLO⟩
            case measure => simp [intOf]; omega
        | false =>
          rw [hd] at hlow d1
          simp only [Bool.false_eq_true, if_false, Option.some.injEq] at hlow
          have hGG : G1 = Gr := by
            rcases HTT.out with ⟨_, hG⟩ | ⟨v, G', z, nz, ny, hRv, _⟩
            · exact hG
            · rw [← hlow] at hRv; cases hRv
          have HGG := Lib.hid hGG; clear hGG
          clear hd hn hj d2 hlow
          go_wp2_with fail
          refine (HOTH.out _).mono ?_
          rintro e w3 ⟨rfl, rfl⟩
          clear HOTH
          go_wp2_with fail
          go_end0
          exact ⟨rb, _, rfl, by rw [HGG.out]; exact HR2'.out, HO2'.out, by rw [HGG.out]; exact Nat.le_refl _⟩
      · obtain rfl : k = m := by omega
        clear hkm
        have hlow := HL1.out
        rw [Nat.sub_self] at hlow
        unfold Hy.lowest at hlow
        simp only [Option.some.injEq] at hlow
        obtain ⟨v, G', z, nz, ny, hRv, h5, h6, h7, h8, h9, h10, h11⟩ : ∃ v G' z nz ny, R = some v ∧ Hy.climb f k Gr v (if (k + 1) % 2 = 0 then s else t) (if (k + 1) % 2 = 0 then t else s) = some (G', z) ∧ z ≠ y ∧
            (Hy.link G' z y t)[z]? = some nz ∧ (Hy.link G' z y t)[y]? = some ny ∧ nz.word.length < 1000 ∧ nz.word.length + 1 = ny.word.length ∧
            G1 = if Hy.less (nz.word ++ Hy.letter t) ny.word then (Hy.link G' z y t).modify y (Hy.setWord (nz.word ++ Hy.letter t)) else Hy.link G' z y t := by
          rcases HTT.out with ⟨hR, _⟩ | h
          · rw [← hlow] at hR; cases hR
          · exact h
        have hvp : p = v := by have := hlow.trans hRv; exact Option.some.inj this
        have H6 := Lib.hid h6; clear h6
        have H7 := Lib.hid h7; clear h7
        have H8 := Lib.hid h8; clear h8
        have H9 := Lib.hid h9; clear h9
        have H10 := Lib.hid h10; clear h10
        have H11 := Lib.hid h11; clear h11
        clear hRv HTT
        subst hvp
        clear hlow HL1
        have hG'l : G'.length ≤ lim := by
          have h := HL.out
          rw [H11.out] at h
          by_cases hl : Hy.less (nz.word ++ Hy.letter t) ny.word = true
          · rw [if_pos hl, List.length_modify, Hy.length_link] at h; exact h
          · rw [if_neg hl, Hy.length_link] at h; exact h
        have HG' := Lib.hid hG'l; clear hG'l
        rw [show (if (k + 1) % 2 = 0 then s else t) = (if k % 2 = 0 then t else s) by by_cases hp2 : k % 2 = 0; rw [if_pos hp2, if_neg (by omega)]; rw [if_neg hp2, if_pos (by omega)],
          show (if (k + 1) % 2 = 0 then t else s) = (if k % 2 = 0 then s else t) by by_cases hp2 : k % 2 = 0; rw [if_pos hp2, if_neg (by omega)]; rw [if_neg hp2, if_pos (by omega)]] at h5
        have H5' := Lib.hid h5; clear h5
        go_wp2_with fail
        obtain ⟨wo, hwo⟩ : ∃ wo : World, wo = w2 := ⟨_, rfl⟩
        have HWO := Lib.hid hwo; clear hwo
        go_loopw [11, 14] (fun vv kv wq => ∃ (r3 k3 : Nat) (rbq : Nat) (vq : Value) (Gq : List Hy.Node) (zz : Nat), k3 + r3 = k + 1 ∧ 1 ≤ k3 ∧ vv = .int .i64 zz ∧ kv = .int .i64 k3 ∧ Hid (TG wq o B gb rbq vq Gq) ∧ Hid (Hy.climb f r3 Gq zz (if r3 % 2 = 0 then t else s) (if r3 % 2 = 0 then s else t) = some (G', z)) ∧ Hid (Only B w wq) ∧ Gr.length ≤ Gq.length) (fun _ kv _ => k + 1 - (intOf kv).toNat)
        case atStart => exact ⟨k, 1, rb, _, Gr, p, by omega, by omega, rfl, rfl, HR2', H5', HO2', Nat.le_refl _⟩
        case round =>
          obtain ⟨r3, k3, rbq, vq, Gq, zz, hr3, hk31, rfl, rfl, HRq, Hcl, HBq, hlenq⟩ := hrel
          cases r3 with
          | succ r3 =>
            obtain ⟨Gn, zn, hf3, hcn⟩ := Hy.climb_succ Hcl.out
            have hGn : Gn.length ≤ lim := Nat.le_trans (climb_len HF.out hcn) HG'.out
            obtain ⟨q, hq⟩ : ∃ q, q = r3 + 1 := ⟨_, rfl⟩
            rw [← hq] at hf3 hcn
            have hsub : (k : Int) + 1 - (k3 : Int) = (q : Int) := by omega
            have hoth := fun W => t04_turn (t : Int) (s : Int) q (by omega) W
            obtain ⟨c, hc⟩ : ∃ c, c = (if q % 2 = 0 then t else s) := ⟨_, rfl⟩
            have hci : (if q % 2 = 0 then (t : Int) else (s : Int)) = (c : Int) := by rw [hc]; split <;> rfl
            rw [hci] at hoth
            rw [← hc] at hf3
            have hc3 : c < 3 := by rw [hc]; split <;> omega
            have e1 : (if q % 2 = 0 then s else t) = (if r3 % 2 = 0 then t else s) := by
              by_cases hp2 : r3 % 2 = 0
              · rw [if_pos hp2, if_neg (by omega)]
              · rw [if_neg hp2, if_pos (by omega)]
            have e2 : c = (if r3 % 2 = 0 then s else t) := by
              rw [hc]
              by_cases hp2 : r3 % 2 = 0
              · rw [if_pos hp2, if_neg (by omega)]
              · rw [if_neg hp2, if_pos (by omega)]
            rw [← hc, e1, e2] at hcn
            have HCN := Lib.hid hcn; clear hcn
            have hcall := IH.out wr rbq vq Gq zz c Gn zn HRq.out (HB.out.grow HBq.out.size) hc3 hf3 hGn
            have HCALL := Lib.hid hcall; clear hcall hf3
            have HOTH := Lib.hid hoth; clear hoth
            clear e1 e2 hc hq hci
            go_wp2_with fail
            refine (HOTH.out _).mono ?_
            rintro e w3 ⟨rfl, rfl⟩
            clear HOTH
            go_wp2_with fail
            refine HCALL.out.mono ?_
            rintro e w4 ⟨rb4, v4, rfl, hR4, hO4, hlen4, hzn⟩
            clear HCALL
            have HR4 := Lib.hid hR4; clear hR4
            have HO4 := Lib.hid hO4; clear hO4
            go_wp2_with fail
            go_roundw
            case rel => exact ⟨r3, k3 + 1, rb4, v4, Gn, zn, by omega, by omega, rfl, by go_num, HR4, HCN, HBq.out.trans HO4.out, by omega⟩
            case measure => simp [intOf]; omega
          | zero =>
            have hc0 := Hcl.out
            unfold Hy.climb at hc0
            cases hc0
            clear Hcl
            have hzl : z < G'.length := by
              have := (List.getElem?_eq_some_iff.1 H7.out).1
              rwa [Hy.length_link] at this
            have hyl' : y < G'.length := by omega
            obtain ⟨off4, cap4, rfl, hg4, hnode4, hne4, hgl4, hrl4⟩ := HRq.out.opened
            have hz4 : G'[z]? = some G'[z] := List.getElem?_eq_getElem hzl
            have hy4 : G'[y]? = some G'[y] := List.getElem?_eq_getElem hyl'
            obtain ⟨-, ⟨u4, c4, -⟩, f4, hp4, ho4⟩ := HRq.out.write rfl hz4 (j := 1 + t) (by omega) (.int .i64 (y : Nat)) (cells_setTo ht3) (fun r' k' hk' => by
              unfold Hy.setTo at hk'
              simp only at hk'
              by_cases hrs : r' = t
              · rw [if_pos hrs] at hk'; cases hk'; omega
              · rw [if_neg hrs] at hk'; exact HRq.out.closed z G'[z] r' k' hz4 hk')
            rw [← Nat.add_assoc] at c4 f4 hp4 ho4
            have HP4 := Lib.hid hp4; clear hp4
            have HO4 := Lib.hid ho4; clear ho4
            clear hnode4
            go_upto_region 15 with fail
            generalize hWA : wr.setCell ⟨rbq, off4 + z * 8 + 1 + t, none⟩ (.int .i64 (y : Nat)) = WA
            rw [hWA] at HP4 HO4
            clear hg4 c4 f4 hWA
            have hy5 : (G'.set z (Hy.setTo t y G'[z]))[y]? = some G'[y] := by rw [List.getElem?_set_ne H6.out]; exact hy4
            obtain ⟨g5, ⟨u5, c5, -⟩, f5, hp5, ho5⟩ := HP4.out.write (by rw [List.length_set]) hy5 (j := 1 + t) (by omega) (.int .i64 (z : Nat)) (cells_setTo ht3) (fun r' k' hk' => by
              rw [List.length_set]
              unfold Hy.setTo at hk'
              simp only at hk'
              by_cases hrs : r' = t
              · rw [if_pos hrs] at hk'; cases hk'; omega
              · rw [if_neg hrs] at hk'; exact HRq.out.closed y G'[y] r' k' hy4 hk')
            rw [← Nat.add_assoc] at c5 f5 hp5 ho5
            have HP5 := Lib.hid hp5; clear hp5
            have HO5 := Lib.hid ho5; clear ho5
            have hy6 : ((G'.set z (Hy.setTo t y G'[z])).set y (Hy.setTo t z G'[y]))[y]? = some (Hy.setTo t z G'[y]) := List.getElem?_set_self (by rw [List.length_set]; exact hyl')
            obtain ⟨g6, ⟨u6, c6, -⟩, f6, hp6, ho6⟩ := HP5.out.write (by rw [List.length_set, List.length_set]) hy6 (j := 4 + t) (by omega) (.bool true) (cells_setDown ht3) (fun r' k' hk' => by
              rw [List.length_set, List.length_set]
              unfold Hy.setDown Hy.setTo at hk'
              simp only at hk'
              by_cases hrs : r' = t
              · rw [if_pos hrs] at hk'; cases hk'; omega
              · rw [if_neg hrs] at hk'; exact HRq.out.closed y G'[y] r' k' hy4 hk')
            rw [← Nat.add_assoc] at c6 f6 hp6 ho6
            rw [link_set_eq hz4 hy4 H6.out] at hp6
            have HP6 := Lib.hid hp6.drew; clear hp6
            have HO6 := Lib.hid ((((HBq.out.trans HO4.out).trans HO5.out).trans ho6).drew); clear ho6
            have hzi : (z : Int) < (G'.length : Int) := by omega
            have hyi : (y : Int) < (G'.length : Int) := by omega
            clear HP4 HP5 HO4 HO5 hy5 hy6 hz4 hy4 HRq
            go_cut [11] (fun s wx => s = .int .i64 z ∧ Hid (TG wx o B gb rbq (.slice (some ⟨rbq, off4, none⟩) G'.length cap4) (Hy.link G' z y t)) ∧ Hid (Only B w wx))
            case first =>
              go_region
              all_goals go_wp2_with fail
              all_goals go_meet
              all_goals exact ⟨rfl, HP6, HO6⟩
            case rest =>
              obtain ⟨rfl, HP, HO⟩ := hcut
              clear HP6 HO6 g5 c5 f5 g6 c6 f6
              obtain ⟨g7, ⟨u7, c7, hu7⟩, -⟩ := HP.out.write (by rw [Hy.length_link]) H7.out (j := 7) (by omega) (str nz.word) rfl (fun r' k' hk' => HP.out.closed z nz r' k' H7.out hk')
              obtain ⟨-, ⟨u8, c8, hu8⟩, f8, hp8, ho8⟩ := HP.out.write (by rw [Hy.length_link]) H8.out (j := 7) (by omega) (str (nz.word ++ Hy.letter t)) (cells_setWord (by have := H10.out; simp [Hy.letter]; omega)) (fun r' k' hk' => HP.out.closed y ny r' k' H8.out hk')
              have e7 : str nz.word = u7 := Option.some.inj hu7
              have e8 : str ny.word = u8 := Option.some.inj hu8
              rw [← e7] at c7
              rw [← e8] at c8
              clear e7 e8 hu7 hu8 u7 u8
              obtain ⟨hszg, hszr⟩ : gb < wc.heap.size ∧ rbq < wc.heap.size := ⟨World.block_lt_of_cell? _ _ g7, World.block_lt_of_cell? _ _ c7⟩
              unfold str at c7 c8
              have HLT := Lib.hid (fun W => (t04_letter t (by omega) W).mono (fun e w' h => And.intro h.1 (show Below W.heap.size W w' from h.2 ▸ (Below.refl _ _).alloc (Nat.le_refl _) _)))
              unfold str Hy.letter at HLT
              have hz1000 := H9.out
              have hadd2 : ∀ W' : World, (Op.stringOp .add ⟨nz.word.toArray⟩ ⟨#[UInt8.ofNat t]⟩).run Try.prog W' = .ok (.string (⟨nz.word.toArray⟩ ++ ⟨#[UInt8.ofNat t]⟩)) W' := fun W' => by
                have h2 : IntKind.i64.max = 2 ^ 63 - 1 := rfl
                simp only [Op.stringOp, ByteArray.size, List.size_toArray, h2]
                rw [if_neg (by simp; omega)]
                rfl
              clear hp8 ho8
              have hzi : (z : Int) < (G'.length : Int) := by omega
              have hyi : (y : Int) < (G'.length : Int) := by omega
              obtain ⟨mn, hmn⟩ : ∃ mn, mn = (if Hy.less (nz.word ++ Hy.letter t) ny.word = true then nz.word ++ Hy.letter t else ny.word) := ⟨_, rfl⟩
              have hmin : ∀ W' : World, (Builtin.min_ #[9, 9] 9 #[.string ⟨ny.word.toArray⟩, .string (⟨nz.word.toArray⟩ ++ ⟨#[UInt8.ofNat t]⟩)]).run Try.prog W' = .ok (.string ⟨mn.toArray⟩) W' := fun W' => by
                rw [hmn]
                exact run_min_str ny.word nz.word t W'
              have HMN := Lib.hid hmn; clear hmn
              go_upto_region 16 with fail
              have l1 := fun (q : Later wc) => ((bcell q.h).1 gb 3 hszg).trans g7
              have l2 := fun (q : Later wc) => ((bcell q.h).1 rbq _ hszr).trans c7
              have l3 := fun (q : Later wc) => ((bcell q.h).1 rbq _ hszr).trans c8
              have FF := Lib.hid f8
              clear g7 c7 c8 f8
              refine wp_region_loads 22 25 (fun w' => ∃ q : Later wc, w' = q.W) ⟨⟨wc.drew, (Below.refl _ _).drew⟩, rfl⟩ (by kernel_rfl) (by kernel_rfl) ?_
              simp only [List.take_succ_cons, List.take_zero, List.drop_succ_cons, List.drop_zero]
              repeat (go_big_quiet_step (fail))
              refine wpQuiet_nil ?_
              have L1 := Lib.hid l1; have L2 := Lib.hid l2; have L3 := Lib.hid l3
              clear l1 l2 l3
              refine wpG_step ?_
              intro K2 hK2
              go_wp2_with fail
              refine (HLT.out _).mono ?_
              rintro e w8 ⟨rfl, hB8⟩
              have HB8 := Lib.hid (below_undrew hB8)
              clear hB8
              go_wp2_with fail
              refine ⟨⟨⟨w8, HB8.out⟩, rfl⟩, hK2 _ _ ?_⟩
              clear hK2
              refine wpG_step ?_
              intro K3 hK3
              go_wp2_with fail
              refine ⟨⟨⟨w8, HB8.out⟩, rfl⟩, hK3 _ _ ?_⟩
              clear hK3
              refine wpG_step ?_
              intro K4 hK4
              go_wp2_with fail
              refine ⟨⟨⟨w8, HB8.out⟩, rfl⟩, hK4 _ _ ?_⟩
              clear hK4
              refine wpG_nil ?_
              have y8 := L3.out ⟨w8, HB8.out⟩
              have f8 : w8.frozen? ⟨rbq, off4 + y * 8 + 7, none⟩ = false := ((bcell HB8.out).2 rbq _ hszr).trans FF.out
              simp only at y8
              go_wp2_with fail
              go_end0
              have hRC := HP.out.heap HB8.out
              have hO8 : Only B w w8 := HO.out.trans (Only.of_below HB8.out (fun k' hk' => HB.out k' (by have := HO.out.size; omega)))
              have hll : (Hy.link G' z y t).length = G'.length := Hy.length_link _ _ _ _
              by_cases hless : Hy.less (nz.word ++ Hy.letter t) ny.word = true
              · have h11 := H11.out
                rw [if_pos hless] at h11
                have hm := HMN.out
                rw [if_pos hless] at hm
                obtain ⟨-, -, -, hp9, ho9⟩ := hRC.write (by rw [Hy.length_link]) H8.out (j := 7) (by omega) (str (nz.word ++ Hy.letter t)) (cells_setWord (by have := H10.out; simp [Hy.letter]; omega)) (fun r' k' hk' => HP.out.closed y ny r' k' H8.out hk')
                rw [← modify_eq_set H8.out] at hp9
                rw [hm, h11]
                exact ⟨rbq, _, rfl, hp9, hO8.trans ho9, by rw [List.length_modify]; omega⟩
              · have h11 := H11.out
                rw [if_neg hless] at h11
                have hm := HMN.out
                rw [if_neg hless] at hm
                obtain ⟨-, -, -, hp9, ho9⟩ := hRC.write (by rw [Hy.length_link]) H8.out (n' := ny) (j := 7) (by omega) (str ny.word) rfl (fun r' k' hk' => HP.out.closed y ny r' k' H8.out hk')
                rw [show (Hy.link G' z y t).set y ny = Hy.link G' z y t from by obtain ⟨hi, he⟩ := List.getElem?_eq_some_iff.1 H8.out; rw [← he]; exact List.set_getElem_self hi] at hp9
                rw [hm, h11]
                exact ⟨rbq, _, rfl, hp9, hO8.trans ho9, by omega⟩
end Go.Proofs.Ytdckpjagmbdkgaa

/- The step of the growing graph of package tiles. -/
namespace Go.Proofs.Ytdckpjagmbdkgaa
set_option linter.unusedSimpArgs false
set_option linter.unusedVariables false
open Go.RowKit

set_option maxRecDepth 100000 in
set_option maxHeartbeats 16000000 in
theorem t04_step_new {w : World} {o : Hy.Ord} (ho : Small o) {B : Nat → Prop} {gb rb : Nat} {v : Value} {G : List Hy.Node} (h : TG w o B gb rb v G) (hB : Free B w) {x s : Nat} (hs : s < 3) {n : Hy.Node} (hx : G[x]? = some n) (hy : n.to s = none) (hl : n.word.length < 1000)
    {lim : Nat} (hlim : lim ≤ 1000000000) {f : List Hy.Node → Nat → Nat → Option (List Hy.Node × Nat)} (ih : T04IH o B gb lim f) {Gc : List Hy.Node} (hf : Longer f) (hc : Hy.cornersL 1000 o f x s G.length 3 (Hy.sprout G n x s) = some Gc) (hGc : Gc.length ≤ lim) :
    Calls Try.prog 46 #[.pointer (some ⟨gb, 0, none⟩), .int .i64 x, .int .i64 s] w (T04Post o B gb G Gc G.length w) := by
  have hxl : x < G.length := (List.getElem?_eq_some_iff.1 hx).1
  obtain ⟨off, cap, rfl, hg, hnode, hne, hgl, hrl⟩ := h.opened
  have hN := hnode x n hx
  have ct := hN.nto s hs
  rw [hy] at ct
  unfold ix at ct
  simp only at ct
  have cl := hN.nlen
  have cw := hN.nword
  unfold str at cw
  have hga : ∀ ob, (w.alloc ob).cell? ⟨gb, 3, none⟩ = some (.slice (some ⟨rb, off, none⟩) G.length cap) := fun ob => (World.cell?_alloc_lt w ob _ hgl).trans hg
  have cla : ∀ ob, (w.alloc ob).cell? ⟨rb, off + x * 8, none⟩ = some (.int .i64 n.word.length) := fun ob => (World.cell?_alloc_lt w ob _ hrl).trans cl
  have cwa : ∀ ob, (w.alloc ob).cell? ⟨rb, off + x * 8 + 7, none⟩ = some (.string ⟨n.word.toArray⟩) := fun ob => (World.cell?_alloc_lt w ob _ hrl).trans cw
  have HLET := Lib.hid (fun W => (t04_letter s (by omega) W).mono (fun e w' h => And.intro h.1 (show Below W.heap.size W w' from h.2 ▸ (Below.refl _ _).alloc (Nat.le_refl _) _)))
  have HX := Lib.hid hx; clear hx
  have HY := Lib.hid hy; clear hy
  have HC := Lib.hid hc; clear hc
  have IH := Lib.hid ih; clear ih
  have HN := Lib.hid hnode; clear hnode hN
  have HB := Lib.hid hB; clear hB
  have H := Lib.hid h; clear h
  have HL := Lib.hid hGc; clear hGc
  have HF := Lib.hid hf; clear hf
  unfold str Hy.letter at HLET
  have hadd : ∀ W' : World, (Op.stringOp .add ⟨n.word.toArray⟩ ⟨#[UInt8.ofNat s]⟩).run Try.prog W' = .ok (.string (⟨n.word.toArray⟩ ++ ⟨#[UInt8.ofNat s]⟩)) W' := fun W' => by
    have h2 : IntKind.i64.max = 2 ^ 63 - 1 := rfl
    simp only [Op.stringOp, ByteArray.size, List.size_toArray, h2]
    rw [if_neg (by simp; omega)]
    rfl
  go_enter Try.func46, Try.ntmps46
  go_upto_region 5 with fail
  go_cut [9] (fun v wx => ∃ nb : Nat, v = .pointer (some ⟨nb, 0, none⟩) ∧ Hid (Below w.heap.size w wx) ∧ w.heap.size ≤ nb ∧ Hid (wx.heap[nb]? = some (.cells #[.int .i64 (n.word.length + 1 : Nat), .int .i64 (-1), .int .i64 (-1), .int .i64 (-1), .bool false, .bool false, .bool false, .string ⟨(n.word ++ Hy.letter s).toArray⟩] 67 (0, 0))))
  case first =>
    go_region_held3 (fun w' => w'.cell? ⟨gb, 3, none⟩ = some (.slice (some ⟨rb, off, none⟩) G.length cap) ∧ w'.cell? ⟨rb, off + x * 8, none⟩ = some (.int .i64 n.word.length) ∧ w'.cell? ⟨rb, off + x * 8 + 7, none⟩ = some (.string ⟨n.word.toArray⟩))
      (first | go_keep | (with_reducible (exact ⟨g4, l4, d4⟩)) | (with_reducible (exact ⟨ga4 _, la4 _, da4 _⟩)) | (refine ⟨?_, ?_, ?_⟩ <;> ((iterate 8 (rw [World.cell?_setCell_other _ _ _ _ (by first | (simp; done) | (simp; omega))])); with_reducible assumption)))
      ((go_at_call 73; refine (HLET.out _).mono ?_; rintro e w4 ⟨rfl, hB4⟩; obtain ⟨hc4, hf4⟩ := bcell hB4;
        have g4 : w4.cell? ⟨gb, 3, none⟩ = some (.slice (some ⟨rb, off, none⟩) G.length cap) := (by first | exact (hc4 gb 3 hgl).trans hg | exact (hc4 gb 3 (by simp; omega)).trans (hga _));
        have l4 : w4.cell? ⟨rb, off + x * 8, none⟩ = some (.int .i64 n.word.length) := (by first | exact (hc4 rb _ hrl).trans cl | exact (hc4 rb _ (by simp; omega)).trans (cla _));
        have d4 : w4.cell? ⟨rb, off + x * 8 + 7, none⟩ = some (.string ⟨n.word.toArray⟩) := (by first | exact (hc4 rb _ hrl).trans cw | exact (hc4 rb _ (by simp; omega)).trans (cwa _));
        have hz4 := hB4.size; (try simp at hz4);
        have ga4 : ∀ ob, (w4.alloc ob).cell? ⟨gb, 3, none⟩ = some (.slice (some ⟨rb, off, none⟩) G.length cap) := (fun ob => (World.cell?_alloc_lt w4 ob _ (by show gb < _; omega)).trans g4);
        have la4 : ∀ ob, (w4.alloc ob).cell? ⟨rb, off + x * 8, none⟩ = some (.int .i64 n.word.length) := (fun ob => (World.cell?_alloc_lt w4 ob _ (by show rb < _; omega)).trans l4);
        have da4 : ∀ ob, (w4.alloc ob).cell? ⟨rb, off + x * 8 + 7, none⟩ = some (.string ⟨n.word.toArray⟩) := (fun ob => (World.cell?_alloc_lt w4 ob _ (by show rb < _; omega)).trans d4);
        have hb4 : Below w.heap.size w w4 := (by first | exact below_undrew hB4 | exact below_unalloc hB4); have HB4 := Lib.hid hb4; 
        (try have n4 : w4.heap[w.heap.size]? = some (.cells #[.int .i64 0, .int .i64 0, .int .i64 0, .int .i64 0, .bool false, .bool false, .bool false, .string ⟨#[]⟩] 67 (0, 0)) := ((hB4.block w.heap.size (by simp)).trans (alloc_heap_new w _)));
        (try have z0 : w4.cell? ⟨w.heap.size, 0, none⟩ = some (Value.int .i64 0) := cell_of_heap n4 0); (try have f0 : w4.frozen? ⟨w.heap.size, 0, none⟩ = false := free_of_heap n4 0); (try have z1 : w4.cell? ⟨w.heap.size, 1, none⟩ = some (Value.int .i64 0) := cell_of_heap n4 1); (try have f1 : w4.frozen? ⟨w.heap.size, 1, none⟩ = false := free_of_heap n4 1); (try have z2 : w4.cell? ⟨w.heap.size, 2, none⟩ = some (Value.int .i64 0) := cell_of_heap n4 2); (try have f2 : w4.frozen? ⟨w.heap.size, 2, none⟩ = false := free_of_heap n4 2); (try have z3 : w4.cell? ⟨w.heap.size, 3, none⟩ = some (Value.int .i64 0) := cell_of_heap n4 3); (try have f3 : w4.frozen? ⟨w.heap.size, 3, none⟩ = false := free_of_heap n4 3); (try have z4 : w4.cell? ⟨w.heap.size, 4, none⟩ = some (Value.bool false) := cell_of_heap n4 4); (try have f4 : w4.frozen? ⟨w.heap.size, 4, none⟩ = false := free_of_heap n4 4); (try have z5 : w4.cell? ⟨w.heap.size, 5, none⟩ = some (Value.bool false) := cell_of_heap n4 5); (try have f5 : w4.frozen? ⟨w.heap.size, 5, none⟩ = false := free_of_heap n4 5); (try have z6 : w4.cell? ⟨w.heap.size, 6, none⟩ = some (Value.bool false) := cell_of_heap n4 6); (try have f6 : w4.frozen? ⟨w.heap.size, 6, none⟩ = false := free_of_heap n4 6); (try have z7 : w4.cell? ⟨w.heap.size, 7, none⟩ = some (Value.string ⟨#[]⟩) := cell_of_heap n4 7); (try have f7 : w4.frozen? ⟨w.heap.size, 7, none⟩ = false := free_of_heap n4 7); (try have N4 := Lib.hid n4); (try clear n4); clear hb4 hB4 hc4 hf4))
    all_goals go_wp2_with fail
    · go_meet
      case rel =>
        refine ⟨_, rfl, HB4.out.alloc (by omega) _, by omega, ?_⟩
        refine (alloc_heap_new w4 _).trans ?_
        have hwr : IntKind.i64.wrap ((n.word.length : Int) + 1) = ((n.word.length + 1 : Nat) : Int) := wrap_add n.word.length 1 (by omega)
        rw [hwr, bytes_add]
        rfl
    · go_meet
      case rel =>
        have hwr : IntKind.i64.wrap ((n.word.length : Int) + 1) = ((n.word.length + 1 : Nat) : Int) := wrap_add n.word.length 1 (by omega)
        rw [hwr, bytes_add]
        exact ⟨_, rfl, below8 HB4.out (Nat.le_refl _) _ _ _ _ _ _ _ _, Nat.le_refl _, store8 N4.out _ _ _ _ _ _ _ _⟩
  case rest =>
    obtain ⟨nb, rfl, HB1, hnb, HN1⟩ := hcut
    have c1 : wc.cell? ⟨nb, 1 + s, none⟩ = some (.int .i64 (-1)) := by
      rw [cell_of_heap HN1.out]
      obtain rfl | rfl | rfl : s = 0 ∨ s = 1 ∨ s = 2 := by omega
      all_goals rfl
    have f1 : wc.frozen? ⟨nb, 1 + s, none⟩ = false := free_of_heap HN1.out _
    have c2 : ∀ u, (wc.setCell ⟨nb, 1 + s, none⟩ u).cell? ⟨nb, 4 + s, none⟩ = some (.bool false) := fun u => by
      rw [World.cell?_setCell_other _ _ _ _ (by simp; try omega), cell_of_heap HN1.out]
      obtain rfl | rfl | rfl : s = 0 ∨ s = 1 ∨ s = 2 := by omega
      all_goals rfl
    have f2 : ∀ u, (wc.setCell ⟨nb, 1 + s, none⟩ u).frozen? ⟨nb, 4 + s, none⟩ = false := fun u => by
      rw [World.frozen?_setCell]; exact free_of_heap HN1.out _
    have hh1 : ∀ W, W = (wc.setCell ⟨nb, 1 + s, none⟩ (.int .i64 x)).setCell ⟨nb, 4 + s, none⟩ (.bool true) → Below w.heap.size w W ∧ W.heap[nb]? = some (.cells (r03cells (Hy.setDown s (Hy.setTo s x (Hy.fresh (n.word ++ Hy.letter s))))).toArray 67 (0, 0)) := by
      rintro W rfl
      refine ⟨(HB1.out.setCell (p := ⟨nb, 1 + s, none⟩) hnb _).setCell (p := ⟨nb, 4 + s, none⟩) hnb _, ?_⟩
      rw [heap_setCell_same _ _ _ _ _ _ (heap_setCell_same _ _ _ _ _ _ HN1.out)]
      have hlen : (n.word ++ Hy.letter s).length = n.word.length + 1 := by simp [Hy.letter]
      unfold r03cells Hy.setDown Hy.setTo Hy.fresh
      simp only [hlen]
      obtain rfl | rfl | rfl : s = 0 ∨ s = 1 ∨ s = 2 := by omega
      all_goals rfl
    have HH1 := Lib.hid hh1; clear hh1
    go_upto_region 7 with fail
    generalize hW1 : (wc.setCell ⟨nb, 1 + s, none⟩ (.int .i64 x)).setCell ⟨nb, 4 + s, none⟩ (.bool true) = W1
    obtain ⟨hb1, hn1⟩ := HH1.out W1 hW1.symm
    have HB2 := Lib.hid hb1; clear hb1
    have hgW : W1.cell? ⟨gb, 3, none⟩ = some (.slice (some ⟨rb, off, none⟩) G.length cap) := ((bcell HB2.out).1 gb 3 hgl).trans hg
    obtain ⟨n', hn'⟩ : ∃ n', n' = Hy.setDown s (Hy.setTo s x (Hy.fresh (n.word ++ Hy.letter s))) := ⟨_, rfl⟩
    rw [← hn'] at hn1
    have z0 := cell_of_heap hn1 0
    have z1 := cell_of_heap hn1 1
    have z2 := cell_of_heap hn1 2
    have z3 := cell_of_heap hn1 3
    have z4 := cell_of_heap hn1 4
    have z5 := cell_of_heap hn1 5
    have z6 := cell_of_heap hn1 6
    have z7 := cell_of_heap hn1 7
    simp [r03cells] at z0 z1 z2 z3 z4 z5 z6 z7
    have HN2 := Lib.hid hn1; clear hn1
    have HN' := Lib.hid hn'; clear hn'
    have hgs1 := HB2.out.size
    have hGl : G.length + 1 ≤ lim := by
      have := cornersL_len HF.out HC.out
      rw [sprout_length] at this
      have := HL.out
      omega
    have hQ := fun ob => ((H.out.heap HB2.out).row.of_heap (W' := (W1.alloc ob).drew) (Below.heap_alloc _ _ _ (by omega)) (by simp [World.drew]))
    have HQ := Lib.hid hQ; clear hQ
    have HNEWS := Lib.hid (fun j u hj => World.news_of_block (w := (W1.alloc (.cells (r03cells n').toArray 67)).drew) (alloc_heap_new W1 _) j u hj)
    have HONE := Lib.hid (one_r03cells n')
    have h63 : G.length + 1 ≤ maxLen := by unfold maxLen; omega
    have H63 := Lib.hid h63; clear h63
    have hby : (G.length + 1) * 56 ≤ 140737488355328 := by omega
    have HBY := Lib.hid hby; clear hby
    obtain ⟨i0, hi0, hzi0, hzi1, hzi2⟩ := info_parts infoNode4
    have HI0 := Lib.hid hi0; clear hi0
    clear ct cl cw hga cla cwa c1 f1 c2 f2 hadd
    have hgB : gb < W1.heap.size := by omega
    go_cut [8] (fun y7 wx => y7 = .int .i64 G.length ∧ ∃ rb2 v2, Hid (TG wx o B gb rb2 v2 (G ++ [n'])) ∧ Hid (Only B w wx))
    case first =>
      go_region_law ((refine step_append_queue rfl (.tmp 62) (.tmp 64) 68 rfl (by simp [Act.eval, Act.put]) (HQ.out _) 67 i0 (.agg #[.int .i64 0, .int .i64 0, .int .i64 0, .int .i64 0, .bool false, .bool false, .bool false, .string ⟨#[]⟩]) 56 Try.underlying68 HI0.out hzi0 hzi1 hzi2 rfl (by decide) ⟨W1.heap.size, 0, none⟩ 1 1 (r03cells n') (by simp [Act.eval, Act.put]) rfl (by decide) HNEWS.out HONE.out H63.out HBY.out ?_; intro v9 w9 g9 hQ9 hO9 hg9; obtain ⟨off9, cap9, rfl⟩ := hQ9.form; have hh9 : w9.heap[gb]? = some (.cells #[.int .i64 o.m01, .int .i64 o.m12, .int .i64 o.m02, .slice (some ⟨rb, off, none⟩) G.length cap] 70 (0, 0)) := (hO9.block gb (by rintro (h | h); exact hne h; (try simp [World.drew] at h); omega)).trans ((Below.heap_alloc W1 _ gb hgB).trans ((HB2.out.block gb hgl).trans H.out.graph)); have k3 := cell_of_heap hh9 3; have f3 := free_of_heap hh9 3; simp at k3; have HH9 := Lib.hid hh9; clear hh9; have HQ9 := Lib.hid hQ9; clear hQ9; have HO9 := Lib.hid hO9; clear hO9; have HG9 := Lib.hid hg9; clear hg9))
      all_goals go_wp2_with fail
      all_goals go_meet
      all_goals
        have hrep := rep_append4 H.out HB.out HB2.out hxl HN'.out HH9.out HQ9.out (by simp [World.drew]) HO9.out HG9.out
        exact ⟨rfl, g9, _, hrep.1, hrep.2⟩
    case rest =>
      obtain ⟨rfl, rb2, v2, HR2, HO2⟩ := hcut
      obtain ⟨off2, cap2, rfl, hg2, hnode2, hne2, hgl2, hrl2⟩ := HR2.out.opened
      have hx2 : (G ++ [n'])[x]? = some n := by rw [List.getElem?_append_left hxl]; exact HX.out
      have hl2 : (G ++ [n']).length = G.length + 1 := by simp
      have hput := HR2.out.put hx2 (j := 1 + s) (by omega) (u := .int .i64 (G.length : Nat)) (cells_setTo hs) (fun r k hk => by
        unfold Hy.setTo at hk
        simp only at hk
        by_cases hrs : r = s
        · rw [if_pos hrs] at hk; cases hk; omega
        · rw [if_neg hrs] at hk; exact HR2.out.closed x n r k hx2 hk)
      rw [HN'.out, sprout_eq HX.out, ← Nat.add_assoc] at hput
      have hO3 := HO2.out.setCell (p := ⟨rb2, off2 + x * 8 + 1 + s, none⟩) HR2.out.lo.2 (.int .i64 (G.length : Nat))
      have c8 := (hnode2 x n hx2).nto s hs
      rw [HY.out] at c8
      unfold ix at c8
      simp only at c8
      have f8 : wc.frozen? ⟨rb2, off2 + x * 8 + 1 + s, none⟩ = false := by
        have := (hnode2 x n hx2).nfree (1 + s) (by omega)
        rwa [← Nat.add_assoc] at this
      rw [hl2] at hg2
      have HPUT := Lib.hid hput; clear hput
      have HO3 := Lib.hid hO3; clear hO3
      have hxi : (x : Int) < ((G.length + 1 : Nat) : Int) := by omega
      clear hnode2 hx2 hl2 HR2 HO2
      go_upto_region 9 with fail
      generalize hW2 : wc.setCell ⟨rb2, off2 + x * 8 + 1 + s, none⟩ (.int .i64 (G.length : Nat)) = W2
      rw [hW2] at HPUT HO3
      clear hg2 c8 f8 hW2
      go_wp2_with fail
      go_loopw [78] (fun i wr => ∃ (r : Nat) (rb' : Nat) (v' : Value) (Gr : List Hy.Node), r ≤ 3 ∧ i = .int .i64 ((3 - r : Nat) : Int) ∧ Hid (TG wr o B gb rb' v' Gr) ∧ Hid (Hy.cornersL 1000 o f x s G.length r Gr = some Gc) ∧ Hid (Only B w wr) ∧ G.length + 1 ≤ Gr.length) (fun i _ => 3 - (intOf i).toNat)
      case atStart => exact ⟨3, rb2, _, Hy.sprout G n x s, by omega, rfl, HPUT, HC, HO3, by rw [sprout_length]; omega⟩
      case round =>
        obtain ⟨r, rb', v', Gr, hr3, rfl, HR, HCr, HBr, hlen⟩ := hrel
        cases r with
        | zero =>
          go_wp2_with fail
          go_ret
          have hc0 := HCr.out
          unfold Hy.cornersL at hc0
          cases hc0
          exact ⟨rb', v', rfl, HR.out, HBr.out, by omega, by omega⟩
        | succ r =>
          obtain ⟨G1, hc1, hc2⟩ := Hy.cornersL_succ HCr.out
          have hG1 : G1.length ≤ lim := Nat.le_trans (cornersL_len HF.out hc2) HL.out
          have HC2 := Lib.hid hc2; clear hc2
          obtain ⟨t, ht, ht3⟩ : ∃ t, t = 3 - (r + 1) ∧ t < 3 := ⟨_, rfl, by omega⟩
          rw [← ht] at hc1 ⊢
          have htr : 3 - r = t + 1 := by omega
          have HT := Lib.hid htr; clear htr
          have HT' := Lib.hid ht; clear ht
          by_cases hts : t = s
          · have h2 : G1 = Gr := by
              unfold Hy.cornerL at hc1
              rw [if_pos (.inl hts)] at hc1
              exact (Option.some.inj hc1).symm
            subst h2
            have g1 : ((t : Int) != (s : Int)) = false := by rw [bne_eq_false_iff_eq]; omega
            clear hc1
            go_wp2_with fail
            go_roundw
            case rel => exact ⟨r, rb', v', G1, by omega, by rw [HT.out, hts]; rfl, HR, HC2, HBr, hlen⟩
            case measure => simp [intOf]; omega
          · have g1 : ((t : Int) != (s : Int)) = true := by rw [bne_iff_ne]; omega
            have HCL := Lib.hid (t04_close ho HR.out (HB.out.grow HBr.out.size) (x := x) (y := G.length) hs ht3 hts (by omega) (by omega) hlim IH.out HF.out hc1 hG1)
            unfold ClosePost at HCL
            clear hc1
            go_wp2_with fail
            refine HCL.out.mono ?_
            rintro e w4 ⟨rb4, v4, rfl, hR4, hO4, hl4⟩
            have HR4 := Lib.hid hR4
            have HO4 := Lib.hid (HBr.out.trans hO4)
            clear hR4 hO4 HCL
            go_wp2_with fail
            go_roundw
            case rel => exact ⟨r, rb4, v4, G1, by omega, by rw [HT.out]; rfl, HR4, HC2, HO4, by omega⟩
            case measure => simp [intOf]; omega

/-- The step of the graph in memory. -/
theorem t04_step {o : Hy.Ord} (ho : Small o) {B : Nat → Prop} {gb lim : Nat} (hlim : lim ≤ 1000000000) : ∀ fuel : Nat, T04IH o B gb lim (Hy.stepL 1000 o fuel)
  | 0 => fun w rb v G x s G' y h hB hs hf => by cases hf
  | fuel + 1 => fun w rb v G x s G' y h hB hs hf hG => by
    unfold Hy.stepL at hf
    cases hx : G[x]? with
    | none => rw [hx] at hf; cases hf
    | some n =>
      rw [hx] at hf
      simp only at hf
      cases hy : n.to s with
      | some y' =>
        rw [hy] at hf
        cases hf
        exact t04_step_known h hs hx hy
      | none =>
        rw [hy] at hf
        simp only at hf
        by_cases hl : 1000 ≤ n.word.length
        · rw [if_pos hl] at hf; cases hf
        · rw [if_neg hl] at hf
          cases hc : Hy.cornersL 1000 o (Hy.stepL 1000 o fuel) x s G.length 3 (Hy.sprout G n x s) with
          | none => rw [hc] at hf; cases hf
          | some Gc =>
            rw [hc] at hf
            cases hf
            exact t04_step_new ho h hB hs hx hy (by omega) hlim (t04_step ho hlim fuel) (stepL_len 1000 o fuel) hc hG
end Go.Proofs.Ytdckpjagmbdkgaa

/- The growing graph of package tiles: made, and walked along a word. -/
namespace Go.Proofs.Ytdckpjagmbdkgaa
set_option linter.unusedSimpArgs false
set_option linter.unusedVariables false
open Go.RowKit

theorem TG.lt {w : World} {o : Hy.Ord} {B : Nat → Prop} {gb rb : Nat} {v : Value} {G : List Hy.Node} (h : TG w o B gb rb v G) : gb < w.heap.size ∧ rb < w.heap.size := by
  obtain ⟨off, cap, rfl, _, _, _, h1, h2⟩ := h.opened
  exact ⟨h1, h2⟩
theorem TG.sub {w : World} {o : Hy.Ord} {B B' : Nat → Prop} {gb rb : Nat} {v : Value} {G : List Hy.Node} (h : TG w o B gb rb v G) (h1 : B' gb) (h2 : B' rb) : TG w o B' gb rb v G :=
  ⟨h.graph, h.row, h.ne, ⟨h1, h2⟩, h.closed⟩

def GrownPost (o : Hy.Ord) (w : World) (e : Ending) (w' : World) : Prop :=
  ∃ (gb rb : Nat) (v : Value), e = .returned (.pointer (some ⟨gb, 0, none⟩)) ∧ TG w' o (fun k => w.heap.size ≤ k) gb rb v Hy.start ∧ Below w.heap.size w w'

set_option maxRecDepth 100000 in
set_option maxHeartbeats 1000000 in
theorem t04_grown (o : Hy.Ord) (w : World) :
    Calls Try.prog 28 #[ordersV o.m01 o.m12 o.m02] w (GrownPost o w) := by
  unfold ordersV
  go_enter Try.func28, Try.ntmps28
  go_wp2_with fail
  go_ret
  refine ⟨w.heap.size + 1 + 1, w.heap.size + 1, .slice (some ⟨w.heap.size + 1, 0, none⟩) 1 1, rfl, ⟨?_, ?_, by omega, ⟨by omega, by omega⟩, ?_⟩, ?_⟩
  · have := alloc_heap_new ((w.alloc (.cells #[.int .i64 o.m01, .int .i64 o.m12, .int .i64 o.m02] 23)).alloc (.cells (flat Hy.start).toArray 67)) (.cells #[.int .i64 o.m01, .int .i64 o.m12, .int .i64 o.m02, .slice (some ⟨w.heap.size + 1, 0, none⟩) 1 1] 70)
    rw [World.size_alloc, World.size_alloc] at this
    exact this
  · have h1 := QRow.new (w.alloc (.cells #[.int .i64 o.m01, .int .i64 o.m12, .int .i64 o.m02] 23)) (flat Hy.start) 1 8 67 rfl (by decide)
    rw [World.size_alloc] at h1
    exact h1.of_heap (Below.heap_alloc _ _ _ (by simp)) (by simp)
  · intro i n s j hi hj
    have h0 : i = 0 := by
      have := (List.getElem?_eq_some_iff.1 hi).1
      simpa [Hy.start] using this
    subst h0
    cases hi
    cases hj
  · exact (((Below.refl _ _).alloc (Nat.le_refl _) _).alloc (by simp) _).alloc (by simp; omega) _

set_option maxRecDepth 100000 in
set_option maxHeartbeats 1000000 in
theorem t04_walk {o : Hy.Ord} (ho : Small o) (fuel : Nat) {lim : Nat} (hlim : lim ≤ 1000000000) {w : World} {B : Nat → Prop} {gb rb : Nat} {v : Value} {G : List Hy.Node} (h : TG w o B gb rb v G) (hF : Free B w) (l : List UInt8) (hl : ∀ (k : Nat) (hk : k < l.length), l[k].toNat < 3) (hlen : l.length ≤ 1000) (x : Nat) (hx : x < G.length) (G' : List Hy.Node) (y : Nat) (hr : Hy.walkL 1000 o fuel G x l = some (G', y)) (hG : G'.length ≤ lim) :
    Calls Try.prog 72 #[.pointer (some ⟨gb, 0, none⟩), .int .i64 x, str l] w (T04Post o B gb G G' y w) := by
  obtain ⟨cap, c, fr, kb, hc⟩ := run_bytes l w
  have IH := Lib.hid (t04_step ho (B := fun k => B k ∧ k ≠ w.heap.size) (gb := gb) hlim fuel)
  have HC := Lib.hid hc; clear hc
  have HL := Lib.hid hl; clear hl
  have HR := Lib.hid hr; clear hr
  have HF := Lib.hid hF; clear hF
  have H := Lib.hid h; clear h
  have HG := Lib.hid hG; clear hG
  unfold str
  go_enter Try.func72, Try.ntmps72
  go_wp2_with fail
  obtain ⟨W0, hW0⟩ : ∃ W0, (w.alloc (.cells c 5 fr)).drew = W0 := ⟨_, rfl⟩
  rw [hW0]
  have hs0 : W0.heap.size = w.heap.size + 1 := by rw [← hW0]; simp [World.drew]
  have hb0 : W0.heap[w.heap.size]? = some (.cells c 5 fr) := by rw [← hW0]; exact alloc_heap_new w _
  have hG0 : TG W0 o (fun k => B k ∧ k ≠ w.heap.size) gb rb v G := by
    rw [← hW0]
    obtain ⟨l1, l2⟩ := H.out.lt
    exact (H.out.heap (((Below.refl _ _).alloc (Nat.le_refl _) _).drew)).sub ⟨H.out.lo.1, by omega⟩ ⟨H.out.lo.2, by omega⟩
  have hF0 : Free (fun k => B k ∧ k ≠ w.heap.size) W0 := fun k hk => ⟨HF.out k (by omega), by omega⟩
  have hO0 : Only B w W0 := by rw [← hW0]; exact ((Only.refl B w).alloc HF.out _).drew
  have HW0 := Lib.hid hW0; clear hW0
  have HS0 := Lib.hid hs0; clear hs0
  have HB0 := Lib.hid hb0; clear hb0
  have HG0 := Lib.hid hG0; clear hG0
  have HF0 := Lib.hid hF0; clear hF0
  have HO0 := Lib.hid hO0; clear hO0
  clear kb
  go_loopw [1, 12] (fun tv i wr => ∃ (k : Nat) (rq : Nat) (vq : Value) (Gq : List Hy.Node) (xq : Nat), k ≤ l.length ∧ i = .int .i64 k ∧ tv = .int .i64 xq ∧ Hid (TG wr o (fun k => B k ∧ k ≠ w.heap.size) gb rq vq Gq) ∧ Hid (Hy.walkL 1000 o fuel Gq xq (l.drop k) = some (G', y)) ∧
    Hid (Only (fun k => B k ∧ k ≠ w.heap.size) W0 wr) ∧ G.length ≤ Gq.length ∧ xq < Gq.length) (fun _ i _ => l.length - (intOf i).toNat)
  case atStart => exact ⟨0, rb, v, G, x, Nat.zero_le _, rfl, rfl, HG0, HR, Only.refl _ _, Nat.le_refl _, hx⟩
  case round =>
    obtain ⟨k, rq, vq, Gq, xq, hk, rfl, rfl, HGq, HRq, HOq, hlq, hxq⟩ := hrel
    by_cases hlt : k < l.length
    · have hcell : wr.cell? ⟨w.heap.size, k, none⟩ = some (.int .u8 (l[k].toNat : Int)) := by
        rw [cell_of_heap ((HOq.out.block w.heap.size (by simp)).trans HB0.out)]
        exact HC.out k hlt
      have hr := HRq.out
      rw [List.drop_eq_getElem_cons hlt] at hr
      obtain ⟨Gn, xn, hs, hr'⟩ := walkL_cons hr
      have h3 := HL.out k hlt
      have hGn : Gn.length ≤ lim := Nat.le_trans (walkL_len hr') HG.out
      have hcall := IH.out wr rq vq Gq xq l[k].toNat Gn xn HGq.out (HF0.out.grow HOq.out.size) h3 hs hGn
      have HCALL := Lib.hid hcall; clear hcall hs hr
      have HRN := Lib.hid hr'; clear hr'
      go_wp2_with fail
      refine HCALL.out.mono ?_
      rintro e w3 ⟨rn, vn, rfl, h3, hB3, hlen3, hzn⟩
      clear HCALL
      have H3 := Lib.hid h3; clear h3
      have HB3 := Lib.hid hB3; clear hB3
      go_wp2_with fail
      go_roundw
      case rel => exact ⟨k + 1, rn, vn, Gn, xn, by omega, by go_num, rfl, H3, HRN, HOq.out.trans HB3.out, by omega, hzn⟩
      case measure => simp [intOf]; omega
    · obtain rfl : k = l.length := by omega
      clear hlt hk
      go_wp2_with fail
      go_ret
      have hr := HRq.out
      rw [List.drop_length] at hr
      cases hr
      exact ⟨rq, vq, rfl, HGq.out.sub HGq.out.lo.1.1 HGq.out.lo.2.1, HO0.out.trans (HOq.out.mono (fun k hk => hk.1)), hlq, hxq⟩

/-- The error of orders. -/
theorem t04_allowed (a b c : Int) (w : World) :
    Calls Try.prog 50 #[ordersV a b c] w fun e w' => e = .returned (.int .i64 (Hy.ordErr a b c)) ∧ Below w.heap.size w w' := by
  have HN := Lib.hid (fun W => words_Normal a b c [] W (by simp) 1000 [] (fun _ => rfl))
  have he : Hy.allErr a b c [[]] = Hy.ordErr a b c := by
    unfold Hy.allErr
    split
    · rfl
    · rename_i h; simp at h; rw [h]; rfl
  rw [he] at HN
  have e2 : (if Hy.ordErr a b c = 0 then ([] : List UInt8) else []) = [] := by split <;> rfl
  rw [e2] at HN
  unfold str ordersV at *
  generalize Hy.ordErr a b c = er at *
  clear he e2
  go_enter Try.func50, Try.ntmps50
  go_wp2_with fail
  refine (HN.out _).mono ?_
  rintro e w1 ⟨rfl, hB1⟩
  have HB1 := Lib.hid (show Below w.heap.size w w1 from ((Below.refl _ w).alloc (Nat.le_refl _) _).trans (hB1.mono (by simp)))
  clear hB1
  go_wp2_with fail
  go_ret
  exact ⟨rfl, HB1.out⟩

/-- The error of a ring. -/
def ringErr (a b c n most : Int) : Int := if Hy.ordErr a b c ≠ 0 then Hy.ordErr a b c else if n < 0 then 1 else if most < n then 4 else 0

set_option maxRecDepth 100000 in
theorem t04_ranged (a b c n most : Int) (w : World) :
    Calls Try.prog 27 #[ordersV a b c, .int .i64 n, .int .i64 most] w fun e w' => e = .returned (.int .i64 (ringErr a b c n most)) ∧ Below w.heap.size w w' := by
  have HN := Lib.hid (fun W => t04_allowed a b c W)
  unfold ringErr
  unfold ordersV at *
  generalize Hy.ordErr a b c = er at *
  by_cases he : er = 0
  · subst he
    rw [if_neg (by simp)]
    by_cases h1 : n < 0
    · rw [if_pos h1]
      go_enter Try.func27, Try.ntmps27
      go_wp2_with fail
      refine (HN.out _).mono ?_
      rintro e w1 ⟨rfl, hB1⟩
      have HB1 := Lib.hid (show Below w.heap.size w w1 from ((Below.refl _ w).alloc (Nat.le_refl _) _).trans (hB1.mono (by simp)))
      clear hB1
      go_wp2_with fail
      go_ret
      exact ⟨rfl, HB1.out⟩
    · rw [if_neg h1]
      by_cases h2 : most < n
      · rw [if_pos h2]
        go_enter Try.func27, Try.ntmps27
        go_wp2_with fail
        refine (HN.out _).mono ?_
        rintro e w1 ⟨rfl, hB1⟩
        have HB1 := Lib.hid (show Below w.heap.size w w1 from ((Below.refl _ w).alloc (Nat.le_refl _) _).trans (hB1.mono (by simp)))
        clear hB1
        go_wp2_with fail
        go_ret
        exact ⟨rfl, HB1.out⟩
      · rw [if_neg h2]
        go_enter Try.func27, Try.ntmps27
        go_wp2_with fail
        refine (HN.out _).mono ?_
        rintro e w1 ⟨rfl, hB1⟩
        have HB1 := Lib.hid (show Below w.heap.size w w1 from ((Below.refl _ w).alloc (Nat.le_refl _) _).trans (hB1.mono (by simp)))
        clear hB1
        go_wp2_with fail
        go_ret
        exact ⟨rfl, HB1.out⟩
  · rw [if_pos he]
    have g1 : (er == 0) = false := by rw [beq_eq_false_iff_ne]; exact he
    have g2 : (er != 0) = true := by rw [bne_iff_ne]; exact he
    go_enter Try.func27, Try.ntmps27
    go_wp2_with fail
    refine (HN.out _).mono ?_
    rintro e w1 ⟨rfl, hB1⟩
    have HB1 := Lib.hid (show Below w.heap.size w w1 from ((Below.refl _ w).alloc (Nat.le_refl _) _).trans (hB1.mono (by simp)))
    clear hB1
    go_wp2_with fail
    go_ret
    exact ⟨rfl, HB1.out⟩
end Go.Proofs.Ytdckpjagmbdkgaa
