import Derived.BigRegionIn
import Derived.Test.YtdckpjagmbdkgaaRg
import Derived.Test.YtdckpjagmbdkgaaSrt

/- tiles.Ring. -/
namespace Go.Proofs.Ytdckpjagmbdkgaa
set_option linter.unusedSimpArgs false
set_option linter.unusedVariables false
open Go.RowKit
open Hy (Lev wd)

theorem post_marks0 {P : Program} {fn : Func} {a : Act} {w : World} {v : Value} {R : Ending → World → Prop} (hr : (results fn a.tmps).run P w = .ok v w) (hd : a.defers = []) (hR : R (.returned v) w) : bodyPostM Fence.wide 0 P fn R .ret a w := by
  show LeavesInM Fence.wide 0 P fn a.tmps R a.defers .returning w
  rw [hd]
  exact ⟨v, hr, hR⟩

theorem post_marks1 {P : Program} {fn : Func} {a : Act} {w : World} {v : Value} {D : Nat} {R : Ending → World → Prop} (hd : a.defers = [{ target := .collected D, args := #[] }]) (hK : w.heap[D]? = some (.deferred (some [])))
    (hr : (results fn a.tmps).run P (w.putObj D (.deferred none)) = .ok v (w.putObj D (.deferred none))) (hR : R (.returned v) (w.putObj D (.deferred none))) : bodyPostM Fence.wide 0 P fn R .ret a w := by
  show LeavesInM Fence.wide 0 P fn a.tmps R a.defers .returning w
  rw [hd]
  exact ⟨by simp, .inl ⟨D, _, rfl, run_takeDeferred hK, v, hr, hR⟩⟩

theorem calls_of_marks {P : Program} {f : FuncId} {fn : Func} {c : Code} {args : Array Value} {w : World} {R : Ending → World → Prop} (hf : P.funcs[f]? = some fn) (hb : fn.body = some c)
    (h : c.wp P (bodyPostM Fence.wide 0 P fn R) { tmps := args ++ Array.replicate (fn.ntmps - args.size) undef, defers := [] } w) : Calls P f args w R :=
  (callsIn_wide (n := 0)).1 (callsIn_of_wp_marks hf hb trivial (wpIn_wide.2 h))

set_option maxRecDepth 100000 in
set_option maxHeartbeats 1000000 in
theorem t04_rings (gb : Nat) (n : Int) (w : World) :
    Calls Try.prog 29 #[.pointer (some ⟨gb, 0, none⟩), .int .i64 n] w fun e w' =>
      e = .returned (.func (.func 51) #[] #[.pointer (some ⟨w.heap.size + 1, 0, none⟩), .pointer (some ⟨w.heap.size, 0, none⟩)]) ∧ Below w.heap.size w w' ∧ w'.heap.size = w.heap.size + 2 ∧
        w'.cell? ⟨w.heap.size + 1, 0, none⟩ = some (.int .i64 n) ∧ w'.cell? ⟨w.heap.size, 0, none⟩ = some (.pointer (some ⟨gb, 0, none⟩)) := by
  go_enter Try.func29, Try.ntmps29
  go_wp2_with fail
  go_ret
  refine ⟨rfl, ((Below.refl _ _).alloc (Nat.le_refl _) _).alloc (by simp) _, by simp, ?_, ?_⟩
  · have := cell_of_heap (World.alloc_heap_new (w.alloc (.cells #[.pointer (some ⟨gb, 0, none⟩)] 58)) (.cells #[.int .i64 n] 3)) 0
    rw [World.size_alloc] at this
    exact this
  · exact (World.cell?_alloc_lt _ _ _ (by simp)).trans (cell_of_heap (World.alloc_heap_new w (.cells #[.pointer (some ⟨gb, 0, none⟩)] 58)) 0)

/-- The words of a ring. -/
def RingWords (o : Hy.Ord) (n : Nat) (L : List (List UInt8)) : Prop := ∃ G ring, Lev o G n ring ∧ L.Perm (ring.map (wd G)) ∧ L.Pairwise (fun a b => Hy.less b a = false)

/-- What holds ahead of round i: the boxes of n, of the graph, and of what has been gathered. -/
structure RgI (o : Hy.Ord) (n bn gx ob gb N : Nat) (i : Nat) (C : Nat → Prop) (W : World) : Prop where
  cn : C bn
  cg : C gx
  co : C ob
  low : ∀ k, C k → N ≤ k
  hn : W.heap[bn]? = some (.cells #[.int .i64 n] 3)
  hg : W.heap[gx]? = some (.cells #[.pointer (some ⟨gb, 0, none⟩)] 58)
  none : i ≤ n → W.heap[ob]? = some (.cells #[.slice none 0 0] 26)
  some : n < i → ∃ v G ring, W.heap[ob]? = some (.cells #[v] 26) ∧ Lev o G n ring ∧ GQ W v ((ring.map (wd G)).map str) ∧ (∀ b, v.ownBlock = Option.some b → C b ∧ b ≠ ob ∧ ∃ c u, W.cell? ⟨b, c, Option.none⟩ = Option.some u) ∧ ring.length ≤ 1000000000

theorem RgI.stable {o : Hy.Ord} {n bn gx ob gb N : Nat} {Own : Nat → Prop} : Stable Own (RgI o n bn gx ob gb N) := by
  rintro i C W W' h hs hsz
  refine ⟨h.cn, h.cg, h.co, h.low, (hs _ (.inl h.cn)).trans h.hn, (hs _ (.inl h.cg)).trans h.hg, fun hi => (hs _ (.inl h.co)).trans (h.none hi), fun hi => ?_⟩
  obtain ⟨v, G, ring, h1, h2, h3, h4, h5⟩ := h.some hi
  refine ⟨v, G, ring, (hs _ (.inl h.co)).trans h1, h2, ?_, fun b hb => ?_, h5⟩
  · rcases h3 with h3 | ⟨g, h3⟩
    · exact .inl h3
    · have hv : v.ownBlock = Option.some g := by obtain ⟨off, cap, rfl, _⟩ := h3; rfl
      exact .inr ⟨g, h3.of_heap (hs g (.inl (h4 g hv).1)) hsz⟩
  · obtain ⟨k1, k2, c, u, k3⟩ := h4 b hb
    exact ⟨k1, k2, c, u, (World.cell?_of_block (w := W) (a := ⟨b, c, Option.none⟩) (hs b (.inl k1))).trans k3⟩

theorem mid_len {o : Hy.Ord} {G : List Hy.Node} {n : Nat} {ring : List Nat} (h : Lev o G n ring) (hn : n ≤ 14) : ring.length ≤ 20000000 := by
  have h1 := Hy.nodup_sub h.nd (m := List.range G.length) (fun x hx => List.mem_range.2 ((h.mem x).1 hx).1)
  have h2 := h.small
  have h3 : 3 ^ n ≤ 3 ^ 14 := Nat.pow_le_pow_right (by omega) hn
  have h4 : 3 ^ 14 = 4782969 := by decide
  rw [List.length_range] at h1
  omega

/-- While the words are gathered. -/
structure RgL (o : Hy.Ord) (gb rb ob gx N2 : Nat) (vg rv : Value) (G : List Hy.Node) (ring : List Nat) (W2 : World) (j : Nat) (v : Value) (wr : World) : Prop where
  on : Only (fun k => k = ob ∨ N2 ≤ k) W2 wr
  out : wr.heap[ob]? = some (.cells #[v] 26)
  hg : wr.heap[gx]? = some (.cells #[.pointer (some ⟨gb, 0, none⟩)] 58)
  tg : TG wr o (fun k => k ≠ ob ∧ k < N2) gb rb vg G
  rq : GQ wr rv (natVs ring)
  rb : ∀ b, rv.ownBlock = some b → b ≠ ob ∧ b < N2
  q : GQ wr v (((ring.map (wd G)).take j).map str)
  vb : ∀ b, v.ownBlock = some b → N2 ≤ b ∧ 0 < j
  low : gx ≠ ob ∧ gx < N2 ∧ ob < N2

theorem RgL.pushed {o : Hy.Ord} {gb rb ob gx N2 : Nat} {vg rv : Value} {G : List Hy.Node} {ring : List Nat} {W2 : World} {j : Nat} {v : Value} {wr : World} (h : RgL o gb rb ob gx N2 vg rv G ring W2 j v wr) {v9 : Value} {w9 : World} {x : Nat} (hx : ring[j]? = some x)
    (hq9 : GQ w9 v9 (((ring.map (wd G)).take j).map str ++ [str (wd G x)])) (ho9 : Only (fun k => v.ownBlock = some k ∨ wr.heap.size ≤ k) wr w9) (hv9 : ∀ b, v9.ownBlock = some b → v.ownBlock = some b ∨ wr.heap.size ≤ b) (hN : N2 ≤ W2.heap.size) :
    w9.heap[ob]? = some (.cells #[v] 26) ∧ RgL o gb rb ob gx N2 vg rv G ring W2 (j + 1) v9 (w9.setCell ⟨ob, 0, none⟩ v9) := by
  have hs1 := h.on.size
  have hs2 := ho9.size
  have lo := h.low
  have lob := (Array.getElem?_eq_some_iff.1 h.out).1
  have kB : ∀ k, k < N2 → ¬ (v.ownBlock = some k ∨ wr.heap.size ≤ k) := fun k hk hb => by
    rcases hb with hb | hb
    · have := (h.vb k hb).1; omega
    · omega
  have k1 : w9.heap[ob]? = some (.cells #[v] 26) := (ho9.block ob (kB ob lo.2.2)).trans h.out
  have hoc : Only (fun k => k = ob) w9 (w9.setCell ⟨ob, 0, none⟩ v9) := (Only.refl (fun k => k = ob) w9).setCell (p := ⟨ob, 0, none⟩) rfl v9
  have hall : Only (fun k => k = ob ∨ v.ownBlock = some k ∨ wr.heap.size ≤ k) wr (w9.setCell ⟨ob, 0, none⟩ v9) := (ho9.mono (fun k hk => .inr hk)).trans (hoc.mono (fun k hk => .inl hk))
  have kA : ∀ k, k ≠ ob → k < N2 → ¬ (k = ob ∨ v.ownBlock = some k ∨ wr.heap.size ≤ k) := fun k h1 h2 hb => hb.elim h1 (kB k h2)
  refine ⟨k1, h.on.trans (hall.mono (fun k hk => ?_)), ?_, (hall.block gx (kA gx lo.1 lo.2.1)).trans h.hg, h.tg.only hall (kA _ h.tg.lo.1.1 h.tg.lo.1.2) (kA _ h.tg.lo.2.1 h.tg.lo.2.2), h.rq.only hall (fun b hb => kA b (h.rb b hb).1 (h.rb b hb).2), h.rb, ?_, fun b hb => ?_, lo⟩
  · rcases hk with hk | hk | hk
    · exact .inl hk
    · exact .inr (h.vb k hk).1
    · exact .inr (by omega)
  · rw [heap_setCell_same _ _ _ _ _ _ k1]; rfl
  · have e : (ring.map (wd G)).take (j + 1) = (ring.map (wd G)).take j ++ [wd G x] := by
      rw [List.take_add_one]
      simp [hx]
    rw [e, List.map_append]
    refine (GQ.only (B := fun k => k = ob) (by simpa using hq9) hoc (fun b hb e => ?_))
    rcases hv9 b hb with h1 | h1
    · have := (h.vb b h1).1; omega
    · omega
  · rcases hv9 b hb with h1 | h1
    · exact ⟨(h.vb b h1).1, Nat.succ_pos _⟩
    · exact ⟨by omega, Nat.succ_pos _⟩

attribute [local go_sem] Oper.semAt_some

set_option maxRecDepth 100000 in
set_option maxHeartbeats 4000000 in
theorem t04_Ring_ok (o : Hy.Ord) (he : Hy.ordErr o.m01 o.m12 o.m02 = 0) (n : Nat) (hn : n ≤ 14) (w : World) :
    Calls Try.prog 9 #[ordersV o.m01 o.m12 o.m02, .int .i64 n] w fun e w' => ∃ v L, e = .returned (.tuple #[v, .int .i64 0]) ∧ GQ w' v (L.map str) ∧ (∀ b, v.ownBlock = some b → w.heap.size ≤ b) ∧ Below w.heap.size w w' ∧ RingWords o n L := by
  have HR := Lib.hid (fun W => t04_ranged o.m01 o.m12 o.m02 n 14 W)
  have hre : ringErr o.m01 o.m12 o.m02 n 14 = 0 := by
    unfold ringErr
    rw [if_neg (by simpa using he), if_neg (by omega), if_neg (by omega)]
  rw [hre] at HR
  have HG := Lib.hid (fun W => t04_grown o W)
  unfold GrownPost at HG
  have HI := Lib.hid (fun (W : World) (gb rb0 : Nat) (v0 : Value) (nb pb : Nat) => rings_iter (w := W) (gb := gb) (rb0 := rb0) (v0 := v0) he n nb pb hn)
  clear hre he
  unfold ordersV at *
  refine calls_of_marks Try.func9 rfl ?_
  simp only [Try.ntmps9, List.size_toArray, List.length_cons, List.length_nil, Nat.reduceAdd, Nat.reduceSub, Array.replicate_succ, Array.replicate_zero, List.push_toArray, List.append_toArray, List.nil_append, List.cons_append]
  go_upto_region 1 with fail
  have hB0 : Below w.heap.size w ((w.alloc (.cells #[.int .i64 o.m01, .int .i64 o.m12, .int .i64 o.m02] 23)).alloc (.cells #[.int .i64 n] 3)) := ((Below.refl _ _).alloc (Nat.le_refl _) _).alloc (by simp) _
  have q0 : ((w.alloc (.cells #[.int .i64 o.m01, .int .i64 o.m12, .int .i64 o.m02] 23)).alloc (.cells #[.int .i64 n] 3)).heap[w.heap.size]? = some (.cells #[.int .i64 o.m01, .int .i64 o.m12, .int .i64 o.m02] 23) :=
    (Below.heap_alloc _ _ _ (by simp)).trans (World.alloc_heap_new w _)
  have q1 : ((w.alloc (.cells #[.int .i64 o.m01, .int .i64 o.m12, .int .i64 o.m02] 23)).alloc (.cells #[.int .i64 n] 3)).heap[w.heap.size + 1]? = some (.cells #[.int .i64 n] 3) := by
    have := World.alloc_heap_new (w.alloc (.cells #[.int .i64 o.m01, .int .i64 o.m12, .int .i64 o.m02] 23)) (.cells #[.int .i64 n] 3)
    rwa [World.size_alloc] at this
  have hsz0 : ((w.alloc (.cells #[.int .i64 o.m01, .int .i64 o.m12, .int .i64 o.m02] 23)).alloc (.cells #[.int .i64 n] 3)).heap.size = w.heap.size + 2 := by simp
  have HB0 := Lib.hid hB0
  have HQ0 := Lib.hid q0
  have HQ1 := Lib.hid q1
  have HZ0 := Lib.hid hsz0
  clear hB0 q0 q1 hsz0
  generalize (w.alloc (.cells #[.int .i64 o.m01, .int .i64 o.m12, .int .i64 o.m02] 23)).alloc (.cells #[.int .i64 n] 3) = W0 at *
  have k0 := cell_of_heap HQ0.out 0
  have k1 := cell_of_heap HQ0.out 1
  have k2 := cell_of_heap HQ0.out 2
  have k3 := cell_of_heap HQ1.out 0
  simp at k0 k1 k2 k3
  go_wp2_with fail
  refine (HR.out _).mono ?_
  rintro e w1 ⟨rfl, hB1⟩
  have HB1 := Lib.hid hB1
  have lk0 : w.heap.size < W0.heap.size := by have := HZ0.out; omega
  have lk1 : w.heap.size + 1 < W0.heap.size := by have := HZ0.out; omega
  have c0 := (hB1.cell (p := ⟨w.heap.size, 0, none⟩) lk0).trans k0
  have c1 := (hB1.cell (p := ⟨w.heap.size, 1, none⟩) lk0).trans k1
  have c2 := (hB1.cell (p := ⟨w.heap.size, 2, none⟩) lk0).trans k2
  clear hB1 k0 k1 k2 k3
  go_wp2_with fail
  refine (HG.out _).mono ?_
  rintro e w2 ⟨gb, rb, v, rfl, hT, hB2⟩
  go_upto_region 6 with fail
  have hsz3 : ((w2.alloc (.cells #[.pointer (some ⟨gb, 0, none⟩)] 58)).alloc (.cells #[.slice none 0 0] 26)).heap.size = w2.heap.size + 2 := by simp
  have hB3 : Below w2.heap.size w2 ((w2.alloc (.cells #[.pointer (some ⟨gb, 0, none⟩)] 58)).alloc (.cells #[.slice none 0 0] 26)) := ((Below.refl _ _).alloc (Nat.le_refl _) _).alloc (by simp) _
  have q3 : ((w2.alloc (.cells #[.pointer (some ⟨gb, 0, none⟩)] 58)).alloc (.cells #[.slice none 0 0] 26)).heap[w2.heap.size]? = some (.cells #[.pointer (some ⟨gb, 0, none⟩)] 58) :=
    (Below.heap_alloc _ _ _ (by simp)).trans (World.alloc_heap_new w2 _)
  have q4 : ((w2.alloc (.cells #[.pointer (some ⟨gb, 0, none⟩)] 58)).alloc (.cells #[.slice none 0 0] 26)).heap[w2.heap.size + 1]? = some (.cells #[.slice none 0 0] 26) := by
    have := World.alloc_heap_new (w2.alloc (.cells #[.pointer (some ⟨gb, 0, none⟩)] 58)) (.cells #[.slice none 0 0] 26)
    rwa [World.size_alloc] at this
  have hT3 := hT.heap hB3
  have HB2 := Lib.hid hB2
  have HB3 := Lib.hid hB3
  have HQ3 := Lib.hid q3
  have HQ4 := Lib.hid q4
  have HT3 := Lib.hid hT3
  have HZ3 := Lib.hid hsz3
  have HT2 := Lib.hid hT.lt
  clear hsz3 hB3 q3 q4 hT3 hT hB2 c0 c1 c2
  generalize (w2.alloc (.cells #[.pointer (some ⟨gb, 0, none⟩)] 58)).alloc (.cells #[.slice none 0 0] 26) = W3 at *
  have HB13 := Lib.hid ((HB1.out.trans (HB2.out.mono HB1.out.size)).trans (HB3.out.mono (Nat.le_trans HB1.out.size HB2.out.size)))
  have d0 := (HB13.out.cell (p := ⟨w.heap.size + 1, 0, none⟩) lk1).trans (cell_of_heap HQ1.out 0)
  have d1 := cell_of_heap HQ3.out 0
  simp at d0 d1
  go_wp2_with fail
  refine (t04_rings gb n _).mono ?_
  rintro e w4 ⟨rfl, hB4, hsz4, hnb, hpb⟩
  have HB4 := Lib.hid hB4
  have HSZ4 := Lib.hid hsz4
  have HNB := Lib.hid hnb
  have HPB := Lib.hid hpb
  clear hB4 hsz4 hnb hpb d0 d1
  go_wp2_with fail
  have hltT := HT3.out.lt
  have hT4 : TG w4 o (fun k => k ≠ W3.heap.size + 1 ∧ k ≠ W3.heap.size) gb rb v Hy.start := (HT3.out.heap HB4.out).sub ⟨by omega, by omega⟩ ⟨by omega, by omega⟩
  have HIT := Lib.hid (HI.out w4 gb rb v _ _ HNB.out HPB.out hT4)
  have hlo := HT3.out.lo
  have HLO := Lib.hid (And.intro hlo HT2.out)
  have HW := Lib.hid (show w.heap.size + 2 ≤ w1.heap.size ∧ w1.heap.size ≤ w2.heap.size ∧ W3.heap.size = w2.heap.size + 2 ∧ w4.heap.size = W3.heap.size + 2 from ⟨by have := HZ0.out; have := HB1.out.size; omega, HB2.out.size, HZ3.out, HSZ4.out⟩)
  have h1n := (HB4.out.block (w.heap.size + 1) (by have := HW.out; omega)).trans ((HB13.out.block _ lk1).trans HQ1.out)
  have h1g := (HB4.out.block w2.heap.size (by have := HW.out; omega)).trans HQ3.out
  have h1o := (HB4.out.block (w2.heap.size + 1) (by have := HW.out; omega)).trans HQ4.out
  have HB04 := Lib.hid ((HB0.out.trans (HB13.out.mono HB0.out.size)).trans (HB4.out.mono (Nat.le_trans HB0.out.size HB13.out.size)))
  have H1N := Lib.hid h1n
  have H1G := Lib.hid h1g
  have H1O := Lib.hid h1o
  clear hltT hT4 hlo h1n h1g h1o HR HG HI HT3 HNB HPB HQ0 HQ1 HQ3 HQ4 HB0 HB1 HB2 HB3 HB4 HB13 HZ0 HZ3 HSZ4 lk0 lk1
  obtain ⟨C0, hC0⟩ : ∃ C0 : Nat → Prop, C0 = fun k => k = w.heap.size + 1 ∨ k = w2.heap.size ∨ k = w2.heap.size + 1 := ⟨_, rfl⟩
  have hc0 : ∀ k, C0 k ↔ (k = w.heap.size + 1 ∨ k = w2.heap.size ∨ k = w2.heap.size + 1) := fun k => by rw [hC0]
  clear hC0
  refine wp_rangeS (gf := 51) (lb := #[.pointer (some ⟨W3.heap.size + 1, 0, none⟩), .pointer (some ⟨W3.heap.size, 0, none⟩)]) rfl (fun args w => by simp [go_sem]) HIT.out (Nat.le_refl _) ?hps
    (RgI o n (w.heap.size + 1) w2.heap.size (w2.heap.size + 1) gb w.heap.size) (fun _ _ _ _ => False) RgI.stable ?hIx C0 ?hC0 ?hOwn ?hSh ?h0 ?hround ?hdone ?hstop
  case hps =>
    rintro i C args W ⟨_, _, _, _, _, rfl, _⟩
    rfl
  case hIx => exact fun c i C W W' h _ _ => h
  case hC0 =>
    intro k hk
    have := HW.out
    rcases (hc0 k).1 hk with rfl | rfl | rfl <;> omega
  case hOwn =>
    intro k hk
    have := HW.out
    refine ⟨?_, rfl, fun h => ?_⟩
    · rcases hk with rfl | rfl <;> omega
    · rcases (hc0 k).1 h with e | e | e <;> rcases hk with rfl | rfl <;> omega
  case hSh =>
    intro k hk
    have h1 := HW.out
    have h2 := HLO.out
    refine ⟨?_, rfl, fun h => ?_⟩
    · rcases hk with rfl | rfl <;> omega
    · rcases (hc0 k).1 h with e | e | e <;> rcases hk with rfl | rfl <;> omega
  case h0 =>
    exact ⟨(hc0 _).2 (.inl rfl), (hc0 _).2 (.inr (.inl rfl)), (hc0 _).2 (.inr (.inr rfl)), fun k hk => by have := HW.out; rcases (hc0 k).1 hk with rfl | rfl | rfl <;> omega, H1N.out, H1G.out, fun _ => H1O.out, fun h => by omega⟩
  case hstop => exact fun D i c C W _ _ h => h.elim
  case hdone =>
    intro D C W hD hI hO hK
    obtain ⟨v9, G, ring, ho, hL, hq, hb, hrl⟩ := hI.some (by omega)
    have HSO := Lib.hid (sort_words hq (by simp; omega))
    have HK := Lib.hid hK
    have HO := Lib.hid hO
    have HLV := Lib.hid hL
    have HIO := Lib.hid ho
    have HB9 := Lib.hid hb
    have HLOW := Lib.hid hI.low
    unfold SortPost at HSO
    have o0 := cell_of_heap ho 0
    simp only [List.getElem?_toArray, List.getElem?_cons_zero] at o0
    clear hI hO hK ho hL hq hb hrl
    simp only [Exit.inBlock, Exit.then]
    go_wp2_with fail
    refine HSO.out.mono ?_
    rintro e w5 ⟨rfl, L', hp, hs, hq5, hO5⟩
    have hsz := HO.out.size
    have ho5 : w5.heap[w2.heap.size + 1]? = some (.cells #[v9] 26) := (hO5.block _ (fun h => by
      have := HW.out
      rcases h with h | h
      · exact (HB9.out _ h).2.1 rfl
      · omega)).trans HIO.out
    have hDW : D < W.heap.size := (Array.getElem?_eq_some_iff.1 HK.out).1
    have hK5 : w5.heap[D]? = some (.deferred (some [])) := (hO5.block _ (fun h => by
      rcases h with h | h
      · obtain ⟨_, _, c, u, h3⟩ := HB9.out _ h
        simp [World.cell?, HK.out] at h3
      · omega)).trans HK.out
    have HK5 := Lib.hid hK5
    have HQ5 := Lib.hid hq5
    have HO5 := Lib.hid hO5
    have HPS := Lib.hid (And.intro hp hs)
    have o5 := cell_of_heap ho5 0
    simp only [List.getElem?_toArray, List.getElem?_cons_zero] at o5
    clear o0 ho5 hK5 hq5 hO5 hp hs hDW
    go_wp2_with fail
    refine post_marks1 rfl HK5.out (by simp [results, Try.results9, go_sem]; rfl) ?_
    have hne : ∀ b, v9.ownBlock = some b → b ≠ D := fun b hb e => by
      subst e
      obtain ⟨_, _, c, u, h3⟩ := HB9.out _ hb
      simp [World.cell?, HK.out] at h3
    have hB5 : Below w.heap.size w w5 := HB04.out.trans ((HO.out.below (fun k hk => by
      have h1 := HW.out
      have h2 := HLO.out
      rcases hk with (hk | hk) | hk
      · rcases (hc0 k).1 hk with rfl | rfl | rfl <;> omega
      · omega
      · rcases hk with rfl | rfl <;> omega)).trans (HO5.out.below (fun k hk => by
      have h1 := HW.out
      rcases hk with hk | hk
      · exact HLOW.out k (HB9.out k hk).1
      · omega)))
    refine ⟨v9, L', rfl, HQ5.out.only (only_putObj (B := fun k => k = D) w5 rfl _) (fun b hb => hne b hb), fun b hb => HLOW.out b (HB9.out b hb).1, hB5.trans ((only_putObj (B := fun k => k = D) w5 rfl _).below (fun k hk => by have := HW.out; omega)), ⟨G, ring, HLV.out, HPS.out.1, HPS.out.2⟩⟩
  case hround =>
    rintro l i C args W hi ⟨rb1, v1, G, ring, rv, rfl, hT, hL, hQ, hrb, hdet⟩ hI hC hsz hCl hlW hOl
    have hsz2 := hsz
    simp only [List.zip_toArray, List.zip_cons_cons, List.zip_nil_left, List.size_toArray, List.foldl_toArray, List.foldl_cons, List.foldl_nil, List.setIfInBounds_toArray, List.set_cons_succ, List.set_cons_zero]
    have HT := Lib.hid hT; have HL := Lib.hid hL; have HQ := Lib.hid hQ; have HRB := Lib.hid hrb; have HI := Lib.hid hI; have HC := Lib.hid hC
    have HLW := Lib.hid (And.intro hCl hlW)
    clear hT hL hQ hrb hdet hI hC hsz hCl hlW hOl hsz2
    gi_wp2_with fail
    refine ⟨Only.refl _ _, ?_⟩
    intro W2 hs2 hk2
    have hlt1 := HT.out.lt
    have hlo1 := HT.out.lo
    have hnl : ∀ k, C k → k ≠ l ∧ k < W.heap.size := fun k hk => ⟨fun e => HLW.out.1 (e ▸ hk), HC.out k hk⟩
    have hI2 : RgI o n (w.heap.size + 1) w2.heap.size (w2.heap.size + 1) gb w.heap.size i C W2 := (RgI.stable (Own := fun _ => False)) _ _ _ _ HI.out (fun k hk => hk2 k (hk.elim (fun hk => (hnl k hk).1) (fun h => h.elim))) (by omega)
    have hT2 : TG W2 o (fun k => ¬ C k) gb rb1 v1 G := ⟨(hk2 gb (fun e => hlo1.1 (.inr (.inr e)))).trans HT.out.graph, HT.out.row.of_heap (hk2 rb1 (fun e => hlo1.2 (.inr (.inr e)))) (by omega), HT.out.ne, ⟨fun h => hlo1.1 (.inl h), fun h => hlo1.2 (.inl h)⟩, HT.out.closed⟩
    have hQ2 : GQ W2 rv (natVs ring) := by
      rcases HQ.out with h | ⟨g, h⟩
      · exact .inl h
      · have hv : rv.ownBlock = some g := by obtain ⟨off, cap, rfl, _⟩ := h; rfl
        exact .inr ⟨g, h.of_heap (hk2 g (fun e => HRB.out g hv (.inr (.inr e)))) (by omega)⟩
    have HI2 := Lib.hid hI2
    have HT2' := Lib.hid hT2
    have HQ2 := Lib.hid hQ2
    have HS2 := Lib.hid hs2
    have d0 := cell_of_heap hI2.hn 0
    simp only [List.getElem?_toArray, List.getElem?_cons_zero] at d0
    clear hI2 hT2 hQ2 hk2 hlt1 hlo1
    by_cases hin : i < n
    · have hii : (i : Int) < (n : Int) := by omega
      gi_wp2_with fail
      refine ⟨Only.refl _ _, C, fun k hk => ⟨.inl hk, by have := (hnl k hk).2; omega⟩, HI2.out.cn, HI2.out.cg, HI2.out.co, HI2.out.low, HI2.out.hn, HI2.out.hg, fun _ => HI2.out.none (by omega), fun h => by omega⟩
    · obtain rfl : i = n := by omega
      have hii : ¬ (i : Int) < (i : Int) := by omega
      have hrs := HL.out.ring_small (by omega)
      obtain ⟨a0, c0, hrv, hcells⟩ := HQ2.out.open
      obtain ⟨L, hLL⟩ : ∃ L, L = (natVs ring).length := ⟨_, rfl⟩
      rw [← hLL] at hrv
      subst hrv
      have HLN := Lib.hid (show L = ring.length from by rw [hLL]; simp [natVs])
      clear hLL hcells
      have HS0 := Lib.hid (show RgL o gb rb1 (w2.heap.size + 1) w2.heap.size W2.heap.size v1 (.slice a0 L c0) G ring W2 0 (.slice none 0 0) W2 from
        ⟨Only.refl _ _, HI2.out.none (Nat.le_refl _), HI2.out.hg, HT2'.out.sub ⟨fun e => HT2'.out.lo.1 (e ▸ HI2.out.co), HT2'.out.lt.1⟩ ⟨fun e => HT2'.out.lo.2 (e ▸ HI2.out.co), HT2'.out.lt.2⟩, HQ2.out,
          fun b hb => ⟨fun e => HRB.out b hb (.inl (e ▸ HI2.out.co)), HQ2.out.lt b hb⟩, .inl ⟨rfl, by simp⟩, fun b hb => by simp [Value.ownBlock] at hb, by omega, (by have := (hnl _ HI2.out.cg).2; omega), (by have := (hnl _ HI2.out.co).2; omega)⟩)
      have HRS := Lib.hid hrs
      clear hrs hnl hin
      gi_wp2_with fail
      clear d0
      gi_loopw [31] (fun jv wr => ∃ (j : Nat) (v : Value), jv = .int .i64 j ∧ j ≤ ring.length ∧ Hid (RgL o gb rb1 (w2.heap.size + 1) w2.heap.size W2.heap.size v1 (.slice a0 L c0) G ring W2 j v wr)) (fun jv _ => ring.length - (intOf jv).toNat)
      case atStart => exact ⟨0, _, rfl, Nat.zero_le _, HS0⟩
      case round =>
        clear HS0
        obtain ⟨j, v, rfl, hj, HS⟩ := hrel
        by_cases hlt : j < ring.length
        · have hji : (j : Int) < (L : Int) := by have := HLN.out; omega
          obtain ⟨x, hx⟩ : ∃ x, ring[j]? = some x := ⟨ring[j], List.getElem?_eq_getElem hlt⟩
          obtain ⟨a1, c1, hsl, hcells⟩ := HS.out.rq.open
          obtain ⟨g, off, ha, hcell⟩ := hcells j (natV x) (by simp [natVs, hx])
          simp only [Value.slice.injEq] at hsl
          have e1 := hsl.1
          rw [← e1] at ha
          subst ha
          unfold natV at hcell
          have hx0 := (HL.out.mem x).1 (List.mem_of_getElem? hx)
          obtain ⟨nd, hnd⟩ : ∃ nd, G[x]? = some nd := ⟨G[x], List.getElem?_eq_getElem hx0.1⟩
          obtain ⟨off2, cap2, rfl, hg2, hnode2, _, lgb, lrb⟩ := HS.out.tg.opened
          have N := (hnode2 x nd hnd).nword
          have hw : wd G x = nd.word := by unfold wd; rw [hnd]
          have hxi : (x : Int) < (G.length : Int) := by omega
          unfold str at N
          have o0 := cell_of_heap HS.out.out 0
          have g0 := cell_of_heap HS.out.hg 0
          simp only [List.getElem?_toArray, List.getElem?_cons_zero] at o0 g0
          have lob := (Array.getElem?_eq_some_iff.1 HS.out.out).1
          have lgx := (Array.getElem?_eq_some_iff.1 HS.out.hg).1
          have l0 := fun (y : Later wr) => ((bcell y.h).1 (w2.heap.size + 1) 0 lob).trans o0
          have l1 := fun (y : Later wr) => ((bcell y.h).1 w2.heap.size 0 lgx).trans g0
          have l2 := fun (y : Later wr) => ((bcell y.h).1 gb 3 lgb).trans hg2
          have l3 := fun (y : Later wr) => ((bcell y.h).1 rb1 _ lrb).trans N
          have HX := Lib.hid hx
          have HWD := Lib.hid hw
          clear hnode2 hnd hw hx hx0 hcells hsl e1
          gi_upto_region 13 with fail
          refine wpIn_region_loads 9 10 (fun w' => ∃ y : Later wr, w' = y.W) ⟨⟨wr.drew, (Below.refl _ _).drew⟩, rfl⟩ (by kernel_rfl) (by kernel_rfl) (by kernel_rfl) (by rintro ⟨a, w, h⟩; exact h) ?_
          simp only [List.take_succ_cons, List.take_zero, List.drop_succ_cons, List.drop_zero]
          repeat (go_big_quiet_step (fail))
          refine wpQuiet_nil ?_
          clear l0 l1 l2 l3
          refine wpG_step ?_
          intro K2 hK2
          go_wp2_with fail
          refine ⟨⟨⟨_, ((Below.refl _ _).alloc (Nat.le_refl _) _).drew⟩, rfl⟩, hK2 _ _ ?_⟩
          clear hK2
          refine wpG_nil ?_
          obtain ⟨xs, hxs⟩ : ∃ xs, xs = ((ring.map (wd G)).take j).map str := ⟨_, rfl⟩
          have HGQ := Lib.hid (show GQ wr.drew v xs from by rw [hxs]; exact HS.out.q.later (Below.refl _ _).drew)
          have HXL := Lib.hid (show xs.length ≤ 900000000 from by
            have h1 := mid_len HL.out (by omega)
            rw [hxs]; simp; omega)
          have HXS := Lib.hid hxs
          clear hxs
          go_wp2_with (at_builtin; refine wpList_gq1 wr.drew rowStr rfl _ _ rfl (v := v) (xs := xs) rfl HGQ.out _ (.string ⟨nd.word.toArray⟩) rfl rfl HXL.out ?_)
          intro v9 w9 hq9 ho9 hv9
          obtain ⟨a6, c6, hv9e, _⟩ := hq9.open
          obtain ⟨L6, hL6⟩ : ∃ L6, L6 = (xs ++ [Value.string ⟨nd.word.toArray⟩]).length := ⟨_, rfl⟩
          rw [← hL6] at hv9e
          subst hv9e
          obtain ⟨h9, hS9⟩ := RgL.pushed HS.out HX.out (by rw [HWD.out, ← HXS.out]; exact hq9) (((Only.refl _ wr).drew).trans ho9) hv9 (Nat.le_refl _)
          have HS9 := Lib.hid hS9
          have p9 := cell_of_heap h9 0
          have f9 := free_of_heap h9 0
          simp only [List.getElem?_toArray, List.getElem?_cons_zero] at p9
          clear hS9 h9 hq9 ho9 hv9 HGQ HXL o0 g0 hg2 N HS hL6
          go_wp2_with fail
          clear p9 f9
          have hrs := HRS.out
          gi_wp2_with fail
          go_roundw
          case rel => exact ⟨j + 1, _, by go_num, hlt, HS9⟩
          case measure => simp [intOf]; omega
        · obtain rfl : j = ring.length := by omega
          have hji : ¬ ((ring.length : Nat) : Int) < (L : Int) := by have := HLN.out; omega
          gi_wp2_with fail
          refine ⟨HS.out.on.mono (fun k hk => ?_), fun k => C k ∨ v.ownBlock = some k, fun k hk => ?_, ?_⟩
          · rcases hk with hk | hk
            · exact .inl (hk ▸ HI2.out.co)
            · exact .inr (by have := HS2.out; omega)
          · rcases hk with hk | hk
            · exact ⟨.inl hk, by have := HC.out k hk; have := HS.out.on.size; have := HS2.out; omega⟩
            · exact ⟨.inr (by have := (HS.out.vb k hk).1; have := HS2.out; omega), HS.out.q.lt k hk⟩
          · refine ⟨.inl HI2.out.cn, .inl HI2.out.cg, .inl HI2.out.co, fun k hk => ?_, (HS.out.on.block _ (fun h => ?_)).trans HI2.out.hn, HS.out.hg, fun h => by omega, fun _ => ⟨v, G, ring, HS.out.out, HL.out, ?_, fun b hb => ?_, HRS.out⟩⟩
            · rcases hk with hk | hk
              · exact HI2.out.low k hk
              · have := (HS.out.vb k hk).1
                have := HI2.out.low _ HI2.out.co
                have := HS.out.low
                omega
            · have h1 := HW.out
              have h2 := HC.out _ HI2.out.cn
              have h3 := HS2.out
              omega
            · have h := HS.out.q
              rwa [List.take_of_length_le (by simp)] at h
            · have h1 := HS.out.vb b hb
              refine ⟨.inr hb, by have := HS.out.low; omega, ?_⟩
              rcases HS.out.q with ⟨rfl, _⟩ | ⟨g, off, cap, rfl, _, _, hl, hc, _⟩
              · simp [Value.ownBlock] at hb
              · simp [Value.ownBlock] at hb
                subst hb
                obtain ⟨u, hu⟩ : ∃ u, (((ring.map (wd G)).take ring.length).map str)[0]? = some u := ⟨_, List.getElem?_eq_getElem (by simp; omega)⟩
                exact ⟨_, u, hc 0 u hu⟩
end Go.Proofs.Ytdckpjagmbdkgaa

/- tiles.Ring: its errors. -/
namespace Go.Proofs.Ytdckpjagmbdkgaa
set_option linter.unusedSimpArgs false
set_option linter.unusedVariables false
open Go.RowKit

set_option maxRecDepth 100000 in
set_option maxHeartbeats 2000000 in
theorem t04_Ring_err (a b c n : Int) (w : World) (he : ringErr a b c n 14 ≠ 0) :
    Calls Try.prog 9 #[ordersV a b c, .int .i64 n] w fun e w' => e = .returned (.tuple #[.slice none 0 0, .int .i64 (ringErr a b c n 14)]) ∧ Below w.heap.size w w' := by
  have HR := Lib.hid (fun W => t04_ranged a b c n 14 W)
  have hne : (ringErr a b c n 14 != 0) = true := by rw [bne_iff_ne]; exact he
  generalize ringErr a b c n 14 = er at *
  clear he
  unfold ordersV at *
  refine calls_of_marks Try.func9 rfl ?_
  simp only [Try.ntmps9, List.size_toArray, List.length_cons, List.length_nil, Nat.reduceAdd, Nat.reduceSub, Array.replicate_succ, Array.replicate_zero, List.push_toArray, List.append_toArray, List.nil_append, List.cons_append]
  go_upto_region 1 with fail
  have hB0 : Below w.heap.size w ((w.alloc (.cells #[.int .i64 a, .int .i64 b, .int .i64 c] 23)).alloc (.cells #[.int .i64 n] 3)) := ((Below.refl _ _).alloc (Nat.le_refl _) _).alloc (by simp) _
  have q0 : ((w.alloc (.cells #[.int .i64 a, .int .i64 b, .int .i64 c] 23)).alloc (.cells #[.int .i64 n] 3)).heap[w.heap.size]? = some (.cells #[.int .i64 a, .int .i64 b, .int .i64 c] 23) :=
    (Below.heap_alloc _ _ _ (by simp)).trans (World.alloc_heap_new w _)
  have q1 : ((w.alloc (.cells #[.int .i64 a, .int .i64 b, .int .i64 c] 23)).alloc (.cells #[.int .i64 n] 3)).heap[w.heap.size + 1]? = some (.cells #[.int .i64 n] 3) := by
    have := World.alloc_heap_new (w.alloc (.cells #[.int .i64 a, .int .i64 b, .int .i64 c] 23)) (.cells #[.int .i64 n] 3)
    rwa [World.size_alloc] at this
  have HB0 := Lib.hid hB0
  have HQ0 := Lib.hid q0
  have HQ1 := Lib.hid q1
  clear hB0 q0 q1
  generalize (w.alloc (.cells #[.int .i64 a, .int .i64 b, .int .i64 c] 23)).alloc (.cells #[.int .i64 n] 3) = W0 at *
  have k0 := cell_of_heap HQ0.out 0
  have k1 := cell_of_heap HQ0.out 1
  have k2 := cell_of_heap HQ0.out 2
  have k3 := cell_of_heap HQ1.out 0
  simp at k0 k1 k2 k3
  go_wp2_with fail
  refine (HR.out _).mono ?_
  rintro e w1 ⟨rfl, hB1⟩
  have HB1 := Lib.hid (HB0.out.trans (hB1.mono HB0.out.size))
  clear hB1 k0 k1 k2 k3
  go_wp2_with fail
  refine post_marks0 (by simp [results, Try.results9, go_sem]) rfl ⟨rfl, HB1.out⟩
end Go.Proofs.Ytdckpjagmbdkgaa
