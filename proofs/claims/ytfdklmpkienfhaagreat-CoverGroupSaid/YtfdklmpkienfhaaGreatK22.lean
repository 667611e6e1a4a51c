/- Package cover: List. -/
import Derived.Test.YtfdklmpkienfhaaGreatWlkG
import Derived.LoopIn
namespace Go.Proofs.YtfdklmpkienfhaaGreat
set_option linter.unusedSimpArgs false
set_option linter.unusedVariables false
open Go.RowKit
open Cov (backsL triA)
open Go.Op (bytesLess)

attribute [local go_sem] Oper.semAt_some

theorem AR.open {N : Nat} {w : World} {V : Nat → Value} {A : Nat → List Int} (h : AR N w V A) : ∃ a0 c0 a1 c1 a2 c2, V 0 = .slice a0 (A 0).length c0 ∧ V 1 = .slice a1 (A 1).length c1 ∧ V 2 = .slice a2 (A 2).length c2 := by
  obtain ⟨a0, c0, h0, _⟩ := h 0 (by omega)
  obtain ⟨a1, c1, h1, _⟩ := h 1 (by omega)
  obtain ⟨a2, c2, h2, _⟩ := h 2 (by omega)
  exact ⟨a0, c0, a1, c1, a2, c2, h0, h1, h2⟩

/-- While the least is sought: behind i points. -/
structure BestI (A : Nat → List Int) (base bb : Nat) (W5 : World) (i : Nat) (wr : World) : Prop where
  box : ∃ V : Nat → Value, wr.heap[bb]? = some (.cells #[V 0, V 1, V 2] 27) ∧ ∀ x, x < 3 → RSC (fun g => base ≤ g ∧ g ≠ bb ∧ g < wr.heap.size) wr (V x) (leastA A i x)
  on : Only (fun k => k = bb ∨ W5.heap.size ≤ k) W5 wr

set_option maxRecDepth 100000 in
set_option maxHeartbeats 8000000 in
theorem cover_List (a b c n : Int) (w : World) :
    Calls Tryz.prog 49 #[ordersV a b c, .int .i64 n] w fun e w' => ∃ v, e = .returned (.tuple #[v, .int .i64 (idxErr a b c n)]) ∧ Below w.heap.size w w' ∧ (idxErr a b c n ≠ 0 → v = .slice none 0 0) ∧ (idxErr a b c n = 0 → ∃ L, ActRow w' v L ∧ ListOk (ordN a b c) n.toNat L) := by
  have HIX := Lib.hid (fun W => cover_index a b c n W)
  have HACT := Lib.hid (fun W => cover_actions a b c n W)
  obtain ⟨hs1, hB1, q0, q1, q2, q3⟩ := alloc4 w (.cells #[.int .i64 a, .int .i64 b, .int .i64 c] 23) (.cells #[.int .i64 n] 3) (.cells #[.slice none 0 0] 93) (.cells #[.int .i64 0] 39)
  obtain ⟨W1, hW1⟩ : ∃ W1, W1 = (((w.alloc (.cells #[.int .i64 a, .int .i64 b, .int .i64 c] 23)).alloc (.cells #[.int .i64 n] 3)).alloc (.cells #[.slice none 0 0] 93)).alloc (.cells #[.int .i64 0] 39) := ⟨_, rfl⟩
  rw [← hW1] at hs1 hB1 q0 q1 q2 q3
  have HQ0 := Lib.hid q0; have HQ1 := Lib.hid q1; have HQ2 := Lib.hid q2; have HQ3 := Lib.hid q3
  have HS1 := Lib.hid hs1; have HB1 := Lib.hid hB1
  clear q0 q1 q2 q3 hs1 hB1
  obtain ⟨er, her⟩ : ∃ er, er = idxErr a b c n := ⟨_, rfl⟩
  have HER := Lib.hid her
  rw [← her] at HIX ⊢
  clear her
  unfold ordersV at *
  refine calls_of_wp_X Tryz.func49 rfl ?_
  simp only [Tryz.ntmps49, List.size_toArray, List.length_cons, List.length_nil, Nat.reduceAdd, Nat.reduceSub, Array.replicate_succ, Array.replicate_zero, List.push_toArray, List.append_toArray, List.nil_append, List.cons_append]
  go_upto_region 1 with fail
  rw [← hW1]
  clear hW1
  have k0 := cell_of_heap HQ0.out 0
  have k1 := cell_of_heap HQ0.out 1
  have k2 := cell_of_heap HQ0.out 2
  have k3 := cell_of_heap HQ1.out 0
  simp only [List.getElem?_toArray, List.getElem?_cons_zero, List.getElem?_cons_succ] at k0 k1 k2 k3
  go_wp2_with fail
  refine (HIX.out _).mono ?_
  rintro e w1 ⟨hcase, hB⟩
  have HB2 := Lib.hid hB
  clear hB k0 k1 k2 k3
  have hl : w.heap.size + 3 < W1.heap.size := by have := HS1.out; omega
  have hq0 := (HB2.out.block _ (show w.heap.size < W1.heap.size by omega)).trans HQ0.out
  have hq1 := (HB2.out.block _ (show w.heap.size + 1 < W1.heap.size by omega)).trans HQ1.out
  have HQ00 := Lib.hid hq0
  have HQ11 := Lib.hid hq1
  have HQ22 := Lib.hid ((HB2.out.block _ (show w.heap.size + 2 < W1.heap.size by omega)).trans HQ2.out)
  have HQ33 := Lib.hid ((HB2.out.block _ hl).trans HQ3.out)
  rcases hcase with ⟨hz, rfl⟩ | ⟨hz, rfl⟩
  · obtain ⟨ho, hn1, hn5⟩ := idx_zero (by rw [← HER.out]; exact hz)
    obtain ⟨m, rfl⟩ : ∃ m : Nat, n = m := ⟨n.toNat, by omega⟩
    subst hz
    have HO := Lib.hid ho
    have HN := Lib.hid (show 1 ≤ m ∧ m ≤ 5 by omega)
    clear ho hn1 hn5
    have hmm := @run_makeMap Tryz.prog
    have k0 := cell_of_heap hq0 0
    have k1 := cell_of_heap hq0 1
    have k2 := cell_of_heap hq0 2
    have k3 := cell_of_heap hq1 0
    simp only [List.getElem?_toArray, List.getElem?_cons_zero, List.getElem?_cons_succ] at k0 k1 k2 k3
    clear hq0 hq1
    go_upto_region 4 with fail
    obtain ⟨W2, hW2⟩ : ∃ W2, W2 = (w1.alloc (.map #[] 0)).alloc (.cells #[.map (some w1.heap.size)] 207) := ⟨_, rfl⟩
    have HB3 := Lib.hid (show Below w1.heap.size w1 W2 from by rw [hW2]; exact ((Below.refl _ _).alloc (Nat.le_refl _) _).alloc (by simp) _)
    have HS3 := Lib.hid (show W2.heap.size = w1.heap.size + 2 from by rw [hW2]; simp)
    have HMP2 := Lib.hid (show MapAt W2 str (fun v : Value => v) w1.heap.size ([] : List (List UInt8 × Value)) from by
      rw [hW2]
      exact (mapAt_new w1 _ _).of_heap (heap_alloc_lt _ _ (by simp)))
    have HMV2 := Lib.hid (show W2.heap[w1.heap.size + 1]? = some (.cells #[.map (some w1.heap.size)] 207) from by
      rw [hW2]
      have := alloc_heap_new (w1.alloc (.map #[] 0)) (.cells #[.map (some w1.heap.size)] 207)
      rwa [World.size_alloc] at this)
    rw [← hW2]
    clear hW2 hmm k0 k1 k2 k3
    have hl0 : w.heap.size + 1 < w1.heap.size := by have := HB2.out.size; omega
    have hq0 := (HB3.out.block _ (show w.heap.size < w1.heap.size by omega)).trans HQ00.out
    have hq1 := (HB3.out.block _ hl0).trans HQ11.out
    have k0 := cell_of_heap hq0 0
    have k1 := cell_of_heap hq0 1
    have k2 := cell_of_heap hq0 2
    have k3 := cell_of_heap hq1 0
    simp only [List.getElem?_toArray, List.getElem?_cons_zero, List.getElem?_cons_succ] at k0 k1 k2 k3
    clear hq0 hq1
    go_wp2_with fail
    refine (HACT.out _).mono ?_
    rintro e w3 ⟨rfl, hB, hs, hob, hnb⟩
    have HB4 := Lib.hid hB; have HS4 := Lib.hid hs
    have HIT := Lib.hid (actions_iter (fun k => k = w.heap.size + 1) HO.out HN.out hnb hob)
    clear hB hs hob hnb k0 k1 k2 k3
    obtain ⟨o, ho⟩ : ∃ o, o = ordN a b c := ⟨_, rfl⟩
    rw [← ho] at HIT
    have HOO := Lib.hid ho
    clear ho
    have HMP3 := Lib.hid (HMP2.out.of_heap (HB4.out.block _ HMP2.out.lt))
    have HMV3 := Lib.hid ((HB4.out.block _ (show w1.heap.size + 1 < W2.heap.size by have := HS3.out; omega)).trans HMV2.out)
    have HNB3 := Lib.hid ((HB4.out.block _ (show w.heap.size + 1 < W2.heap.size by have := HS3.out; omega)).trans ((HB3.out.block _ hl0).trans HQ11.out))
    go_wp2_with fail
    obtain ⟨mb, hmb⟩ : ∃ mb, mb = w1.heap.size := ⟨_, rfl⟩
    have HZ := Lib.hid (show w.heap.size + 3 < mb ∧ W2.heap.size = mb + 2 ∧ w3.heap.size = W2.heap.size + 2 from ⟨by have := HB2.out.size; omega, by have := HS3.out; omega, HS4.out⟩)
    have HMB := Lib.hid hmb
    rw [← hmb] at HMP3 HMV3 ⊢
    clear hmb
    refine wp_rangeT (gf := 152) (lb := #[.pointer (some ⟨W2.heap.size + 1, 0, none⟩), .pointer (some ⟨W2.heap.size, 0, none⟩)]) rfl (fun args w => by simp [go_sem]) HIT.out (Nat.le_refl _) ?hps
      (fun i C W => LstI o m (mb + 1) mb mb i C W ∧ W.heap[w.heap.size + 1]? = some (.cells #[.int .i64 m] 3)) (fun _ _ _ _ => False) ?hI ?hIx (fun k => k = mb + 1 ∨ k = mb) ?hC0 ?hOwn ?hSh ?h0 ?hround ?hdone ?hstop
    case hps =>
      rintro i C args W ⟨V, A, rfl, _⟩
      rfl
    case hI =>
      rintro i C W W' ⟨h1, h2⟩ hs hsz
      exact ⟨LstI.stable i C W W' h1 hs hsz, (hs _ (.inr (.inr rfl))).trans h2⟩
    case hIx => exact fun c i C W W' h _ _ => h
    case hC0 =>
      intro k hk
      have := HZ.out
      rcases hk with rfl | rfl <;> omega
    case hOwn =>
      intro k hk
      have := HZ.out
      rcases hk with (hk | hk) | hk
      · exact ⟨by omega, rfl, by omega⟩
      · exact ⟨by omega, rfl, by omega⟩
      · exact ⟨by omega, rfl, by omega⟩
    case hSh => exact fun k hk => hk.elim
    case h0 => exact ⟨⟨.inl rfl, .inr rfl, by omega, HMV3.out, ⟨[], HMP3.out, rfl, fun p hp => by cases hp⟩, fun k hk => by rcases hk with rfl | rfl <;> omega⟩, HNB3.out⟩
    case hstop => exact fun D i c C W _ _ _ h => h.elim
    case hdone =>
      intro D C9 W9 hD hDC hI hO hK
      have hz := HZ.out
      obtain ⟨kv, hmp, hkeys, hents⟩ := hI.1.mp
      obtain ⟨L, hkL, hL⟩ := entries_list hents
      obtain ⟨es, clock, hm0, hr, hst⟩ := hmp
      have hlen : es.toList.length = L.length := by rw [reads_length hr, hkL]; simp
      have hLn : L.Nodup := by
        refine nodup_of_map (fun x : VA => codeL x.2) ?_
        have h := lstK_nodup o m (actsL o m).length
        rw [← hkeys, hkL, List.map_map] at h
        exact h
      rw [hkL] at hr
      have hcl : ∀ k, k < mb → W9.heap[k]? = w1.heap[k]? := fun k hk => (hO.block k (by
        rintro ((h | h) | h)
        · rcases h with h | h <;> omega
        · omega
        · exact h)).trans ((HB4.out.block k (by omega)).trans (HB3.out.block k (by rw [← HMB.out]; exact hk)))
      have q2 := (hcl (w.heap.size + 2) (by omega)).trans HQ22.out
      have q3 := (hcl (w.heap.size + 3) (by omega)).trans HQ33.out
      have hbox := cell_of_heap hI.1.box 0
      simp only [List.getElem?_toArray, List.getElem?_cons_zero] at hbox
      have hrange := run_range_map W9 207 _ _ mb es clock Tryz.underlying207 hm0
      have HL9 := Lib.hid hL; have HLEN := Lib.hid hlen; have HLN := Lib.hid hLn; have HR := Lib.hid hr; have HST := Lib.hid hst
      have HM0 := Lib.hid hm0; have HQ2' := Lib.hid q2; have HQ3' := Lib.hid q3; have HD := Lib.hid hD; have HO9 := Lib.hid hO; have HK := Lib.hid hK
      have HKV := Lib.hid (show L.map (fun x => codeL x.2) = lstK o m (actsL o m).length from by rw [← hkeys, hkL, List.map_map]; rfl)
      have HLT := Lib.hid (show mb < W9.heap.size ∧ D < W9.heap.size ∧ L.length ≤ 17576 from ⟨(Array.getElem?_eq_some_iff.1 hm0).1, (Array.getElem?_eq_some_iff.1 hK).1, by
        have h1 := lstK_few o m (actsL o m).length
        have h2 := acts_few o HN.out
        have h3 : L.length = (lstK o m (actsL o m).length).length := by rw [← hkeys, hkL]; simp
        omega⟩)
      have HDC := Lib.hid hDC
      have HLOW9 := Lib.hid hI.1.low
      clear hI q2 q3 hD hO hK hcl hDC hz hm0 hents hkeys hkL hL hlen hLn hr hst
      simp only [Exit.inBlock, Exit.then]
      go_wp2_with fail
      clear hrange hbox
      have HG := Lib.hid (show GathI L es mb (w.heap.size + 2) W9.heap.size clock W9 (W9.alloc (.mapIter (some mb) clock #[] clock)) from
        ⟨⟨[], #[], clock, World.alloc_heap_new _ _, Nat.le_refl _, walked_nil _ _, (by rw [← HLEN.out]; simp only [List.length_nil, Nat.zero_add, leftOf]; exact Nat.le_trans (Array.size_filter_le) (by simp)), _, (Below.heap_alloc _ _ _ (Array.getElem?_eq_some_iff.1 HQ2'.out).1).trans HQ2'.out, GR.nil _ _, fun b hb => by simp [Value.ownBlock] at hb⟩, (Only.refl _ _).alloc (fun k hk => .inr hk) _⟩)
      go_loopw [46] (fun v wr => Hid (GathI L es mb (w.heap.size + 2) W9.heap.size clock W9 wr)) (fun v wr => wr.rangeLeft mb W9.heap.size)
      case atStart => exact HG
      case round =>
        clear HG
        obtain ⟨⟨ds, seen, c0, hit, hcc, hwk, hcnt, v, hob, hgr, hov⟩, hOn⟩ := hrel.out
        clear hrel
        have hlt := HLT.out
        have hz := HZ.out
        have hd := HD.out
        have hb : wr.heap[mb]? = some (.map es clock) := (hOn.block mb (by omega)).trans HM0.out
        have hrl : wr.rangeLeft mb W9.heap.size = (leftOf es seen).size := by simp only [World.rangeLeft, hb, hit]
        have hitl : W9.heap.size < wr.heap.size := (Array.getElem?_eq_some_iff.1 hit).1
        have HCC := Lib.hid hcc; have HWK := Lib.hid hwk; have HCNT := Lib.hid hcnt; have HOB := Lib.hid hob; have HGR := Lib.hid hgr; have HOV := Lib.hid hov; have HON := Lib.hid hOn; have HIT := Lib.hid hit; have HB := Lib.hid hb; have HRL := Lib.hid hrl
        clear hcc hwk hcnt hob hgr hov hOn hrl
        rcases run_next_at (P := Tryz.prog) wr 0 W9.heap.size mb clock c0 seen es clock hit hb HST.out.1 HCC.out with ⟨h0, hrun⟩ | ⟨e, he, w1', hal, hrun⟩
        · have HE := Lib.hid h0
          clear h0 hit hb
          have hperm := walkedG_end HLEN.out HST.out HWK.out HLN.out HE.out
          have HPERM := Lib.hid hperm
          obtain ⟨a3, c3, hve, -⟩ := HGR.out.open
          obtain ⟨nn, hnn⟩ : ∃ nn, nn = ds.length := ⟨_, rfl⟩
          rw [← hnn] at hve
          have HNN := Lib.hid hnn
          have HVE := Lib.hid hve
          have hob := HOB.out
          rw [hve] at hob
          have k0 := cell_of_heap hob 0
          simp only [List.getElem?_toArray, List.getElem?_cons_zero] at k0
          clear hob hve hnn hperm
          have hRD : ∀ x ∈ ds.map (·.2), (∀ i, i < 3 → RSC (fun k => k ≤ W9.heap.size) wr (x.1 i) (x.2 i)) ∧ 0 < (x.2 0).length ∧ (∀ i, i < 3 → (x.2 i).length ≤ 1000) ∧ ∀ i, i < 3 → ∀ y ∈ x.2 i, 0 ≤ y ∧ y < 256 := fun x hx => by
            obtain ⟨⟨A0, h1, h2, h3, h4⟩, h5⟩ := HL9.out x (HPERM.out.mem_iff.1 hx)
            have h6 := leastA_small h2 (i := m) (by omega)
            rw [← h4] at h6
            refine ⟨fun i hi => (h5 i hi).bd.to (fun g hg => ⟨Nat.le_of_lt hg.2, HON.out.block g ?_⟩), h6⟩
            have := HLOW9.out g hg.1.1
            omega
          have hgr := HGR.out
          rw [HVE.out, ← HNN.out] at hgr
          have HSRT := Lib.hid (sort_any hgr (by rw [HNN.out]; simp) (by rw [← HVE.out]; exact HOV.out) hitl hRD (by rw [HNN.out]; have := HCNT.out; omega))
          have HRD9 := Lib.hid hRD
          clear hgr hRD
          go_wp2_with fail
          refine HSRT.out.mono ?_
          rintro e w5 ⟨rfl, L', hperm, hpw, hrow, hO5⟩
          have HP5 := Lib.hid hperm; have HPW := Lib.hid hpw; have HROW := Lib.hid hrow; have HO5 := Lib.hid hO5
          clear hperm hpw hrow hO5 k0 HSRT
          have hob5 := (HO5.out.block (w.heap.size + 2) (by omega)).trans HOB.out
          rw [HVE.out] at hob5
          have her5 := (HO5.out.block (w.heap.size + 3) (by omega)).trans ((HON.out.block (w.heap.size + 3) (by omega)).trans HQ3'.out)
          have k0 := cell_of_heap hob5 0
          have f0 := free_of_heap hob5 0
          have k1 := cell_of_heap her5 0
          have f1 := free_of_heap her5 0
          simp only [List.getElem?_toArray, List.getElem?_cons_zero] at k0 f0 k1 f1
          have HOB5 := Lib.hid hob5
          have HER5 := Lib.hid her5
          clear hob5 her5
          go_wp2_with fail
          clear k0 f0 k1 f1
          have h2 := heap_setCell_same w5 (w.heap.size + 2) 0 _ _ (.slice a3 nn c3) HOB5.out
          have h3 := (heap_setCell_other w5 ⟨w.heap.size + 2, 0, none⟩ (w.heap.size + 3) (.slice a3 nn c3) (by simp)).trans HER5.out
          have h4 := (heap_setCell_other w5 ⟨w.heap.size + 2, 0, none⟩ D (.slice a3 nn c3) (by dsimp only; omega)).trans ((HO5.out.block D (by omega)).trans ((HON.out.block D (by omega)).trans HK.out))
          have d3 := heap_setCell_same _ (w.heap.size + 3) 0 _ _ (.int .i64 0) h3
          have d2 := (heap_setCell_other _ ⟨w.heap.size + 3, 0, none⟩ (w.heap.size + 2) (.int .i64 0) (by simp)).trans h2
          have d4 := (heap_setCell_other _ ⟨w.heap.size + 3, 0, none⟩ D (.int .i64 0) (by dsimp only; omega)).trans h4
          refine postX_mark rfl d4 ?_
          obtain ⟨W10, hW10⟩ : ∃ W10, W10 = (w5.setCell ⟨w.heap.size + 2, 0, none⟩ (.slice a3 nn c3)).setCell ⟨w.heap.size + 3, 0, none⟩ (.int .i64 0) := ⟨_, rfl⟩
          rw [← hW10] at d2 d3 d4
          have hcells : Only (fun k => k = w.heap.size + 2 ∨ k = w.heap.size + 3) w5 W10 := by
            rw [hW10]
            exact ((only_one w5 _ 0 _).mono (fun k hk => .inl hk)).trans ((only_one _ _ 0 _).mono (fun k hk => .inr hk))
          have hone : Only (fun k => k = D) W10 (W10.putObj D (.deferred none)) := only_putObj (B := fun k => k = D) W10 rfl _
          have e2' := (hone.block (w.heap.size + 2) (by omega)).trans d2
          have e3' := (hone.block (w.heap.size + 3) (by omega)).trans d3
          show Leaves _ _ _ _ _ _ (((w5.setCell ⟨w.heap.size + 2, 0, none⟩ (.slice a3 nn c3)).setCell ⟨w.heap.size + 3, 0, none⟩ (.int .i64 0)).putObj D (.deferred none))
          rw [← hW10]
          generalize W10.putObj D (.deferred none) = W11 at *
          have hall : Only (fun k => k = w.heap.size + 2 ∨ k = w.heap.size + 3 ∨ k = D ∨ W9.heap.size ≤ k) W9 W11 :=
            (((HON.out.mono (fun k hk => by omega)).trans (HO5.out.mono (fun k hk => by omega))).trans (hcells.mono (fun k hk => by omega))).trans (hone.mono (fun k hk => by omega))
          have hB11 : Below w.heap.size w W11 := by
            refine ((((HB1.out.trans (HB2.out.mono HB1.out.size)).trans (HB3.out.mono (by omega))).trans (HB4.out.mono (by omega))).trans (HO9.out.below (fun k hk => ?_))).trans (hall.below (fun k hk => by omega))
            rcases hk with (hk | hk) | hk
            · rcases hk with h | h <;> omega
            · omega
            · exact hk.elim
          refine leaves_cons (f := 111) (args := #[.pointer (some ⟨w.heap.size + 2, 0, none⟩), .pointer (some ⟨w.heap.size + 3, 0, none⟩)]) (by simp) (by simp [go_sem]) ?_
          refine (caught_acts_idle ⟨w.heap.size + 2, 0, none⟩ ⟨w.heap.size + 3, 0, none⟩ _).mono ?_
          rintro e u' w'' ⟨rfl, rfl, rfl⟩
          have e2 := cell_of_heap e2' 0
          have e3 := cell_of_heap e3' 0
          simp at e2 e3
          simp only [Leaves, settle]
          refine ⟨.tuple #[.slice a3 nn c3, .int .i64 0], by simp [results, Tryz.results49, go_sem, e2, e3], _, rfl, hB11, L', ?_, ?_⟩
          · have hL'len : L'.length = nn := by rw [HP5.out.length_eq, List.length_map, HNN.out]
            refine ⟨a3, c3, by rw [hL'len], fun j u hj => ?_, fun x hx i hi => ?_⟩
            · obtain ⟨g, off, h1, h2, h3⟩ := HROW.out j u hj
              have hg : W9.heap.size < g := by
                refine HOV.out g ?_
                rw [HVE.out, h1]
                rfl
              have h12 : w''.heap[g]? = w5.heap[g]? := (hone.block g (by omega)).trans (hcells.block g (by omega))
              exact ⟨g, off, h1, Nat.lt_of_lt_of_le h2 (Nat.le_trans hcells.size hone.size), (World.cell?_of_block (w := w5) (a := ⟨g, off + j, none⟩) h12).trans h3⟩
            · have h5 := (HRD9.out x (HP5.out.mem_iff.1 hx)).1 i hi
              obtain ⟨_, hrs⟩ := HL9.out x (HPERM.out.mem_iff.1 (HP5.out.mem_iff.1 hx))
              refine ((hrs i hi).bd.to (w' := w'') (C' := fun k => k < W9.heap.size) (fun g hg => ⟨hg.2, hall.block g ?_⟩)).rs (fun g hg => Nat.lt_of_lt_of_le hg hall.size)
              have h6 := HLOW9.out g hg.1.1
              have h7 : g ≠ D := fun e => HDC.out (e ▸ hg.1.1)
              omega
          · refine ⟨fun x hx => ?_, ?_, fun A0 hA0 => ?_⟩
            · rw [← HOO.out]
              exact (HL9.out x (HPERM.out.mem_iff.1 (HP5.out.mem_iff.1 hx))).1
            · have hnd : (L'.map fun x => codeL x.2).Nodup := by
                have h := lstK_nodup o m (actsL o m).length
                rw [← HKV.out] at h
                exact ((HP5.out.trans HPERM.out).map _).nodup_iff.2 h
              rw [List.nodup_iff_pairwise_ne, List.pairwise_map] at hnd
              refine (hnd.and HPW.out).imp ?_
              rintro x y ⟨h1, h2⟩
              rcases bytesLess_total h1 with h | h
              · exact h
              · rw [h2] at h; cases h
            · rw [← HOO.out] at hA0
              have h := lstK_mem o m hA0
              rw [← HKV.out] at h
              obtain ⟨x, hx, he⟩ := List.mem_map.1 h
              exact ⟨x, HP5.out.mem_iff.2 (HPERM.out.mem_iff.2 hx), he⟩
        · obtain ⟨x, hzx, hwk2⟩ := walkedG_next HLEN.out HWK.out he
          obtain ⟨hk1, hv1⟩ := zip_kv HR.out _ hzx
          obtain ⟨hx1, hx2⟩ := HL9.out x (List.of_mem_zip hzx).2
          rw [setBlock_put] at hrun
          have hs1 : w1'.heap.size = wr.heap.size := by rcases hal with rfl | rfl <;> rfl
          have hh1 : w1'.heap = wr.heap := by rcases hal with rfl | rfl <;> rfl
          obtain ⟨W2', hW2⟩ : ∃ W2', w1'.putObj W9.heap.size (.mapIter (some mb) clock (seen.push e.born) clock) = W2' := ⟨_, rfl⟩
          rw [hW2] at hrun
          have hit2 : W2'.heap[W9.heap.size]? = some (.mapIter (some mb) clock (seen.push e.born) clock) := by rw [← hW2]; exact World.putObj_heap_same (by omega)
          have hsz2 : W2'.heap.size = wr.heap.size := by rw [← hW2]; simp [World.putObj, hs1]
          have hold2 : ∀ k, k ≠ W9.heap.size → W2'.heap[k]? = wr.heap[k]? := fun k hk => by rw [← hW2, World.putObj_heap_other hk, hh1]
          have hO2 : Only (fun k => k = W9.heap.size) wr W2' := by
            rw [← hW2]
            refine Only.trans ?_ (only_putObj (B := fun k => k = W9.heap.size) w1' rfl _)
            rcases hal with rfl | rfl
            · exact Only.refl _ _
            · exact (Only.refl _ wr).drew
          have hb2 : W2'.heap[mb]? = some (.map es clock) := (hold2 mb (by omega)).trans HB.out
          have hent := run_entry_at (P := Tryz.prog) W2' W9.heap.size mb clock seen es clock e hit2 hb2 (mem_left he).1 HST.out.2
          obtain ⟨a0, c0', h0, -⟩ := hx2 0 (by omega)
          obtain ⟨a1, c1', h1, -⟩ := hx2 1 (by omega)
          obtain ⟨a2, c2', h2, -⟩ := hx2 2 (by omega)
          obtain ⟨l0, hl0⟩ : ∃ l0, l0 = (x.2 0).length := ⟨_, rfl⟩
          obtain ⟨l1, hl1⟩ : ∃ l1, l1 = (x.2 1).length := ⟨_, rfl⟩
          obtain ⟨l2, hl2⟩ : ∃ l2, l2 = (x.2 2).length := ⟨_, rfl⟩
          rw [← hl0] at h0
          rw [← hl1] at h1
          rw [← hl2] at h2
          have HXV := Lib.hid (And.intro h0 (And.intro h1 h2))
          have hval : e.val = .agg #[.slice a0 l0 c0', .slice a1 l1 c1', .slice a2 l2 c2'] := by
            have : e.val = actV x.1 := hv1
            rw [this]; unfold actV; rw [h0, h1, h2]
          obtain ⟨ek, hek⟩ : ∃ ek, ek = e.key := ⟨_, rfl⟩
          rw [hval, ← hek] at hrun hent
          have HLT2 := Lib.hid (left_shrinks es seen e he)
          have HWK2 := Lib.hid hwk2; have HIT2 := Lib.hid hit2; have HO2 := Lib.hid hO2; have HB2 := Lib.hid hb2; have HSZ2 := Lib.hid hsz2; have HOLD2 := Lib.hid hold2
          obtain ⟨a3, c3, hve, -⟩ := HGR.out.open
          obtain ⟨nn, hnn⟩ : ∃ nn, nn = ds.length := ⟨_, rfl⟩
          rw [← hnn] at hve
          have HNN := Lib.hid hnn
          subst hve
          have hob := (hold2 _ (by omega)).trans HOB.out
          have hobl : w.heap.size + 2 < W2'.heap.size := (Array.getElem?_eq_some_iff.1 hob).1
          have k0 := cell_of_heap hob 0
          simp only [List.getElem?_toArray, List.getElem?_cons_zero] at k0
          have HX1 := Lib.hid (List.of_mem_zip hzx).2
          clear hk1 hv1 hx1 hx2 h0 h1 h2 hl0 hl1 hl2 hval hek hwk2 hO2 hb2 hold2 hs1 hh1 hal hW2 hit hb hzx he hnn hit2 hz
          go_upto_region 18 with fail
          obtain ⟨W3', hW3⟩ : ∃ W3', W3' = W2'.alloc (.cells #[.slice a0 l0 c0', .slice a1 l1 c1', .slice a2 l2 c2'] 27) := ⟨_, rfl⟩
          have HB3' := Lib.hid (show Below W2'.heap.size W2' W3' from by rw [hW3]; exact (Below.refl _ _).alloc (Nat.le_refl _) _)
          have HS3' := Lib.hid (show W3'.heap.size = wr.heap.size + 1 from by rw [hW3, ← hsz2]; simp)
          have HX3' := Lib.hid (show W3'.heap[wr.heap.size]? = some (.cells #[.slice a0 l0 c0', .slice a1 l1 c1', .slice a2 l2 c2'] 27) from by rw [hW3, ← hsz2]; exact alloc_heap_new W2' _)
          rw [← hW3]
          clear hW3 k0 hrun hent
          have hz := HZ.out
          have hob3 := (HB3'.out.block _ hobl).trans hob
          have k0 := cell_of_heap hob3 0
          have b0 := cell_of_heap HX3'.out 0
          have b1 := cell_of_heap HX3'.out 1
          have b2 := cell_of_heap HX3'.out 2
          simp only [List.getElem?_toArray, List.getElem?_cons_zero, List.getElem?_cons_succ] at k0 b0 b1 b2
          have hgr3 : GR W3' 3 (.slice a3 nn c3) nn (flatV (ds.map (·.2))) := by
            have h := HGR.out
            rw [← HNN.out] at h
            refine h.of_heap (fun b hb' => ?_) (by have := HS3'.out; omega)
            have h1 := HOV.out b hb'
            have h2 := h.lt b hb'
            exact (HB3'.out.block b (by omega)).trans (HOLD2.out b (by omega))
          have HGR3 := Lib.hid hgr3
          have HOB3 := Lib.hid hob3
          have hnn9 : nn ≤ 900000000 := by have := HNN.out; have := HCNT.out; have := HLT.out; omega
          have HNN9 := Lib.hid hnn9
          clear hob3 hgr3 hob hnn9 hz
          go_wp2_with (at_builtin; refine wpList_grB _ rowAct rfl _ _ rfl (v := .slice a3 nn c3) (xs := flatV (ds.map (·.2))) rfl HGR3.out _ [.slice a0 l0 c0', .slice a1 l1 c1', .slice a2 l2 c2'] rfl rfl (by intro u hu; simp at hu; rcases hu with rfl | rfl | rfl <;> rfl) HNN9.out ?_)
          intro v9 w9 hq9 ho9 hv9
          clear k0 b0 b1 b2
          have hz := HZ.out
          have hob9 := (ho9.block (w.heap.size + 2) (by
            rintro (h | h)
            · have := HOV.out _ h; omega
            · have := HS3'.out; omega)).trans HOB3.out
          have k0 := cell_of_heap hob9 0
          have f0 := free_of_heap hob9 0
          simp only [List.getElem?_toArray, List.getElem?_cons_zero] at k0 f0
          obtain ⟨a9, c9, hv9e, -⟩ := hq9.open
          subst hv9e
          have HQ9 := Lib.hid hq9; have HO99 := Lib.hid ho9; have HV9 := Lib.hid hv9; have HOB9 := Lib.hid hob9
          clear hq9 ho9 hv9 hob9 hz
          go_wp2_with fail
          clear k0 f0
          have hz := HZ.out
          have hset : Only (fun k => k = w.heap.size + 2) w9 (w9.setCell ⟨w.heap.size + 2, 0, none⟩ (.slice a9 (nn + 1 : Nat) c9)) := only_one w9 _ 0 _
          have hcell := heap_setCell_same w9 (w.heap.size + 2) 0 _ _ (.slice a9 (nn + 1 : Nat) c9) HOB9.out
          have hs3 := HS3'.out
          have hon3 : Only (fun k => k = w.heap.size + 2 ∨ W9.heap.size ≤ k) wr (w9.setCell ⟨w.heap.size + 2, 0, none⟩ (.slice a9 (nn + 1 : Nat) c9)) := by
            refine (((HO2.out.mono (fun k hk => by omega)).trans (Only.of_below HB3'.out (fun k hk => by omega))).trans (HO99.out.mono (fun k hk => ?_))).trans (hset.mono (fun k hk => by omega))
            rcases hk with hk | hk
            · have := HOV.out k hk; omega
            · omega
          have HNX := Lib.hid (show GathI L es mb (w.heap.size + 2) W9.heap.size clock W9 (w9.setCell ⟨w.heap.size + 2, 0, none⟩ (.slice a9 (nn + 1 : Nat) c9)) from by
            refine ⟨⟨ds ++ [(e, x)], seen.push e.born, clock, ?_, Nat.le_refl _, HWK2.out, ?_, _, by simpa using hcell, ?_, fun b hb' => ?_⟩, HON.out.trans hon3⟩
            · refine (hset.block _ (by omega)).trans ((HO99.out.block _ ?_).trans ((HB3'.out.block _ (by have := HSZ2.out; omega)).trans HIT2.out))
              rintro (h | h)
              · have := HOV.out _ h; omega
              · omega
            · have h1 := HCNT.out
              have h2 := HLT2.out
              rw [List.length_append, List.length_singleton]
              omega
            · have h := HQ9.out.of_heap (w' := w9.setCell ⟨w.heap.size + 2, 0, none⟩ (.slice a9 (nn + 1 : Nat) c9)) (fun b hb' => hset.block b (by
                rcases HV9.out b hb' with h | h
                · have := HOV.out b h; omega
                · omega)) hset.size
              rw [List.length_append, List.length_singleton, ← HNN.out, List.map_append]
              have e2 : flatV (ds.map (·.2) ++ [(e, x)].map (·.2)) = flatV (ds.map (·.2)) ++ [.slice a0 l0 c0', .slice a1 l1 c1', .slice a2 l2 c2'] := by
                unfold flatV
                rw [List.flatMap_append]
                congr 1
                simp [encA3, HXV.out.1, HXV.out.2.1, HXV.out.2.2]
              rw [e2]
              exact h
            · rcases HV9.out b hb' with h | h
              · exact HOV.out b h
              · omega)
          have hb9 : (w9.setCell ⟨w.heap.size + 2, 0, none⟩ (.slice a9 (nn + 1 : Nat) c9)).rangeLeft mb W9.heap.size = (leftOf es (seen.push e.born)).size := by
            have h1 := (hon3.block mb (by omega)).trans HB.out
            have h2 : (w9.setCell ⟨w.heap.size + 2, 0, none⟩ (.slice a9 (nn + 1 : Nat) c9)).heap[W9.heap.size]? = some (.mapIter (some mb) clock (seen.push e.born) clock) := by
              refine (hset.block _ (by omega)).trans ((HO99.out.block _ ?_).trans ((HB3'.out.block _ (by have := HSZ2.out; omega)).trans HIT2.out))
              rintro (h | h)
              · have := HOV.out _ h; omega
              · omega
            simp only [World.rangeLeft, h1, h2]
          clear hset hcell hon3 hz
          go_roundw
          case rel => exact HNX
          case measure => rw [hb9, HRL.out]; exact HLT2.out
    case hround =>
      rintro l i C args W3 hi ⟨V, A, rfl, hxa, hsa, hla, hqa⟩ hI hC hsz hCl hlW hOl
      simp only [actV, List.zip_toArray, List.zip_cons_cons, List.zip_nil_left, List.size_toArray, List.foldl_toArray, List.foldl_cons, List.foldl_nil, List.setIfInBounds_toArray, List.set_cons_succ, List.set_cons_zero]
      have HI := Lib.hid hI.1
      have HNB := Lib.hid hI.2
      have HCF := Lib.hid hC
      have HL1 := Lib.hid (And.intro hCl (And.intro hlW (hOl _ (.inr rfl))))
      have HXA := Lib.hid (And.intro hxa (And.intro hsa hla))
      have HQA := Lib.hid hqa
      obtain ⟨v0, hv0⟩ : ∃ v, V 0 = v := ⟨_, rfl⟩
      obtain ⟨v1, hv1⟩ : ∃ v, V 1 = v := ⟨_, rfl⟩
      obtain ⟨v2, hv2⟩ : ∃ v, V 2 = v := ⟨_, rfl⟩
      have HV := Lib.hid (And.intro hv0 (And.intro hv1 hv2))
      obtain ⟨ga, offa, capa, hva⟩ : ∃ g off cap, v0 = .slice (some ⟨g, off, none⟩) m cap := by
        obtain ⟨g, ⟨off, cap, h, _⟩, _⟩ := hqa 0 (by omega)
        exact ⟨g, off, cap, hv0.symm.trans h⟩
      obtain ⟨gb, offb, capb, hvb⟩ : ∃ g off cap, v1 = .slice (some ⟨g, off, none⟩) m cap := by
        obtain ⟨g, ⟨off, cap, h, _⟩, _⟩ := hqa 1 (by omega)
        exact ⟨g, off, cap, hv1.symm.trans h⟩
      obtain ⟨gc, offc, capc, hvc⟩ : ∃ g off cap, v2 = .slice (some ⟨g, off, none⟩) m cap := by
        obtain ⟨g, ⟨off, cap, h, _⟩, _⟩ := hqa 2 (by omega)
        exact ⟨g, off, cap, hv2.symm.trans h⟩
      rw [hv0, hv1, hv2]
      subst hva hvb hvc
      clear hI hC hCl hlW hOl hqa hxa hsa hla hsz hi hv0 hv1 hv2
      gi_wp2_with fail
      refine ⟨(Only.refl _ W3).alloc (fun k hk => .inr hk) _, ?_⟩
      intro W4 hs4 hk4 r4 hr4
      have hs4' : W4.heap.size = W3.heap.size + 1 := by simpa using hs4
      have hold4 : ∀ k, k < W3.heap.size → k ≠ l → W4.heap[k]? = W3.heap[k]? := fun k hk hne => (hk4 k hne).trans (Below.heap_alloc _ _ _ hk)
      have hab : W4.heap[W3.heap.size]? = some (.cells #[.slice (some ⟨ga, offa, none⟩) m capa, .slice (some ⟨gb, offb, none⟩) m capb, .slice (some ⟨gc, offc, none⟩) m capc] 27) := (hk4 _ (by have := HL1.out.2.1; omega)).trans (World.alloc_heap_new W3 _)
      have hI4 : LstI o m (mb + 1) mb mb i C W4 := (LstI.stable (Own := fun _ => False)) i C W3 W4 HI.out (fun k hk => hold4 k (HCF.out k (hk.elim id (fun h => h.elim))) (fun e => HL1.out.1 (e ▸ hk.elim id (fun h => h.elim)))) (by omega)
      have hnb4 := (hold4 _ (Array.getElem?_eq_some_iff.1 HNB.out).1 HL1.out.2.2).trans HNB.out
      have hA4 : AR W4.heap.size W4 V A := fun x hx => by
        obtain ⟨g, hq, hg⟩ := HQA.out x hx
        have hq4 := hq.of_heap (hold4 g hq.bd (fun e => hg (.inr (.inr e)))) (by omega)
        have hl : (A x).length = m := by
          have h2 := HXA.out.2.1.1
          have h3 := HXA.out.2.2
          obtain rfl | rfl | rfl : x = 0 ∨ x = 1 ∨ x = 2 := by omega
          · exact h3
          · rw [h2.2.2.1, h3]
          · rw [h2.2.2.2, h3]
        rw [← hl] at hq4
        exact hq4.rs (Nat.lt_of_lt_of_le hq.bd (by omega))
      have HS4' := Lib.hid hs4'; have HAB := Lib.hid hab; have HI4 := Lib.hid hI4; have HA4 := Lib.hid hA4; have HNB4 := Lib.hid hnb4
      clear hr4 hs4 hk4 hs4' hold4 hI4 hA4
      have HLOWM := Lib.hid (show mb + 1 < W3.heap.size ∧ w.heap.size + 1 < mb from ⟨(Array.getElem?_eq_some_iff.1 HI.out.box).1, by have := HZ.out; omega⟩)
      have HLN := Lib.hid (show (A 0).length = m ∧ 0 < (A 0).length from ⟨HXA.out.2.2, by rw [HXA.out.2.2]; exact HN.out.1⟩)
      have HNUM := Lib.hid (show ∀ (p : Nat) W', p < m → Below W4.heap.size W4 W' → Calls Tryz.prog 67 #[.agg #[.slice (some ⟨ga, offa, none⟩) m capa, .slice (some ⟨gb, offb, none⟩) m capb, .slice (some ⟨gc, offc, none⟩) m capc], .int .i64 (p : Int)] W' fun e w' => ∃ pv lv, e = .returned (numV V pv lv) ∧ RS w'.heap.size w' pv (intL (Cov.met (letters A) (A 0).length p)) ∧ RS w'.heap.size w' lv (placeL (A 0).length (Cov.met (letters A) (A 0).length p)) ∧ Below W'.heap.size W' w' from fun p W' hp hB => by
        have h := cover_numbered V A W' (fun x hx => ((HA4.out x hx).below hB).more hB.size) HXA.out.2.1 p (by rw [HLN.out.1]; exact hp)
        unfold actV at h
        rw [HV.out.1, HV.out.2.1, HV.out.2.2] at h
        exact h)
      have g0 := cell_of_heap hab 0
      have g1 := cell_of_heap hab 1
      have g2 := cell_of_heap hab 2
      simp only [List.getElem?_toArray, List.getElem?_cons_zero, List.getElem?_cons_succ] at g0 g1 g2
      have HXB := Lib.hid hab
      clear hab
      gi_wp2_with fail
      refine ⟨trivial, rfl, ((Open.round l).calls (HNUM.out 0 _ (by have := HN.out; omega) (Below.refl _ _))).mono ?_⟩
      rintro e w5 ⟨pv, lv, rfl, hpv, hlv, hB⟩
      have HB5 := Lib.hid hB
      have HCA := Lib.hid (cover_action V pv lv A w5 (fun x hx => ((HA4.out x hx).below HB5.out).more HB5.out.size) HXA.out.2.1 0 HLN.out.2 hpv hlv)
      clear hB hpv hlv g0 g1 g2
      gi_wp2_with fail
      refine ⟨trivial, rfl, ((Open.round l).calls HCA.out).mono ?_⟩
      rintro e w6 ⟨V6, rfl, hA6, hB, ho6⟩
      have HB6 := Lib.hid (HB5.out.trans (hB.mono HB5.out.size))
      have HF6 := Lib.hid (show ∀ x, x < 3 → RSC (fun g => W4.heap.size ≤ g ∧ g < w6.heap.size) w6 (V6 x) (canA A 0 x) from fun x hx => ((hA6 x hx).fresh (ho6 x hx)).to (fun g hg => ⟨⟨Nat.le_trans HB5.out.size hg.1, hg.2⟩, rfl⟩))
      obtain ⟨a0, c0, a1, c1, a2, c2, hv0, hv1, hv2⟩ := hA6.open
      obtain ⟨l0, hl0⟩ : ∃ l0, l0 = (numA (letters A) (A 0).length 0 0).length := ⟨_, rfl⟩
      obtain ⟨l1, hl1⟩ : ∃ l1, l1 = (numA (letters A) (A 0).length 0 1).length := ⟨_, rfl⟩
      obtain ⟨l2, hl2⟩ : ∃ l2, l2 = (numA (letters A) (A 0).length 0 2).length := ⟨_, rfl⟩
      rw [← hl0] at hv0
      rw [← hl1] at hv1
      rw [← hl2] at hv2
      have HV6 := Lib.hid (And.intro hv0 (And.intro hv1 hv2))
      rw [show actV V6 = .agg #[.slice a0 l0 c0, .slice a1 l1 c1, .slice a2 l2 c2] from by unfold actV; rw [hv0, hv1, hv2]]
      clear hB hA6 ho6 hv0 hv1 hv2 hl0 hl1 hl2
      gi_upto_region 7 with fail
      obtain ⟨W5, hW5⟩ : ∃ W5, W5 = w6.alloc (.cells #[.slice a0 l0 c0, .slice a1 l1 c1, .slice a2 l2 c2] 27) := ⟨_, rfl⟩
      have HB7 := Lib.hid (show Below W4.heap.size W4 W5 from by rw [hW5]; exact HB6.out.alloc HB6.out.size _)
      have HS7 := Lib.hid (show W5.heap.size = w6.heap.size + 1 from by rw [hW5]; simp)
      have HX7 := Lib.hid (show W5.heap[w6.heap.size]? = some (.cells #[.slice a0 l0 c0, .slice a1 l1 c1, .slice a2 l2 c2] 27) from by rw [hW5]; exact alloc_heap_new w6 _)
      have HY7 := Lib.hid (show ∀ k, k < w6.heap.size → W5.heap[k]? = w6.heap[k]? from fun k hk => by rw [hW5]; exact Below.heap_alloc _ _ _ hk)
      rw [← hW5]
      clear hW5
      have hz7 : W4.heap.size ≤ w6.heap.size := HB6.out.size
      have g3 := cell_of_heap ((HB7.out.block _ (Array.getElem?_eq_some_iff.1 HNB4.out).1).trans HNB4.out) 0
      simp only [List.getElem?_toArray, List.getElem?_cons_zero] at g3
      gi_wp2_with fail
      clear g3
      have HBST := Lib.hid (show BestI A W4.heap.size w6.heap.size W5 0 W5 from ⟨⟨V6, by rw [HV6.out.1, HV6.out.2.1, HV6.out.2.2]; exact HX7.out, fun x hx => (HF6.out x hx).to (fun g hg => ⟨⟨hg.1, by omega, by have := HS7.out; omega⟩, HY7.out g hg.2⟩)⟩, Only.refl _ _⟩)
      gi_loopw [25] (fun iv wr => ∃ i : Nat, iv = .int .i64 i ∧ i ≤ m ∧ Hid (BestI A W4.heap.size w6.heap.size W5 i wr)) (fun iv _ => m - (intOf iv).toNat)
      case atStart => exact ⟨0, rfl, Nat.zero_le _, HBST⟩
      case round =>
        clear HBST
        obtain ⟨k, rfl, hk, HBI⟩ := hrel
        by_cases hkm : k < m
        · have hki : (k : Int) < (m : Int) := by omega
          have HKM := Lib.hid hkm
          have hbo := HBI.out.on
          have g0 := cell_of_heap ((hbo.block _ (by have := (Array.getElem?_eq_some_iff.1 HXB.out).1; have := HB7.out.size; omega)).trans ((HB7.out.block _ (Array.getElem?_eq_some_iff.1 HXB.out).1).trans HXB.out)) 0
          have g1 := cell_of_heap ((hbo.block _ (by have := (Array.getElem?_eq_some_iff.1 HXB.out).1; have := HB7.out.size; omega)).trans ((HB7.out.block _ (Array.getElem?_eq_some_iff.1 HXB.out).1).trans HXB.out)) 1
          have g2 := cell_of_heap ((hbo.block _ (by have := (Array.getElem?_eq_some_iff.1 HXB.out).1; have := HB7.out.size; omega)).trans ((HB7.out.block _ (Array.getElem?_eq_some_iff.1 HXB.out).1).trans HXB.out)) 2
          simp only [List.getElem?_toArray, List.getElem?_cons_zero, List.getElem?_cons_succ] at g0 g1 g2
          have HBW := Lib.hid (show Below W4.heap.size W4 wr from HB7.out.trans (hbo.below (fun x hx => by have := HS7.out; omega)))
          clear hbo
          gi_wp2_with fail
          refine ⟨trivial, rfl, ((Open.round l).calls (HNUM.out k _ hkm HBW.out)).mono ?_⟩
          rintro e w7 ⟨pv7, lv7, rfl, hpv, hlv, hB⟩
          have HB8 := Lib.hid (show Below wr.heap.size wr w7 from hB)
          have HCA7 := Lib.hid (cover_action V pv7 lv7 A w7 (fun x hx => ((HA4.out x hx).below (HBW.out.trans (HB8.out.mono HBW.out.size))).more (Nat.le_trans HBW.out.size HB8.out.size)) HXA.out.2.1 k (by rw [HLN.out.1]; exact hkm) hpv hlv)
          clear hB hpv hlv g0 g1 g2
          gi_wp2_with fail
          refine ⟨trivial, rfl, ((Open.round l).calls HCA7.out).mono ?_⟩
          rintro e w8 ⟨V8, rfl, hA8, hB, ho8⟩
          have HB9 := Lib.hid (show Below wr.heap.size wr w8 from HB8.out.trans (hB.mono HB8.out.size))
          have HF8 := Lib.hid (show ∀ x, x < 3 → RSC (fun g => wr.heap.size ≤ g ∧ g < w8.heap.size) w8 (V8 x) (canA A k x) from fun x hx => ((hA8 x hx).fresh (ho8 x hx)).to (fun g hg => ⟨⟨Nat.le_trans HB8.out.size hg.1, hg.2⟩, rfl⟩))
          obtain ⟨b0, d0, b1, d1, b2, d2, hv0, hv1, hv2⟩ := hA8.open
          obtain ⟨m0, hm0⟩ : ∃ m0, m0 = (numA (letters A) (A 0).length k 0).length := ⟨_, rfl⟩
          obtain ⟨m1, hm1⟩ : ∃ m1, m1 = (numA (letters A) (A 0).length k 1).length := ⟨_, rfl⟩
          obtain ⟨m2, hm2⟩ : ∃ m2, m2 = (numA (letters A) (A 0).length k 2).length := ⟨_, rfl⟩
          rw [← hm0] at hv0
          rw [← hm1] at hv1
          rw [← hm2] at hv2
          have HV8 := Lib.hid (And.intro hv0 (And.intro hv1 hv2))
          rw [show actV V8 = .agg #[.slice b0 m0 d0, .slice b1 m1 d1, .slice b2 m2 d2] from by unfold actV; rw [hv0, hv1, hv2]]
          clear hB hA8 ho8 hv0 hv1 hv2 hm0 hm1 hm2
          gi_upto_region 11 with fail
          obtain ⟨W9, hW9⟩ : ∃ W9, W9 = w8.alloc (.cells #[.slice b0 m0 d0, .slice b1 m1 d1, .slice b2 m2 d2] 27) := ⟨_, rfl⟩
          have HB10 := Lib.hid (show Below wr.heap.size wr W9 from by rw [hW9]; exact HB9.out.alloc HB9.out.size _)
          have HS10 := Lib.hid (show W9.heap.size = w8.heap.size + 1 from by rw [hW9]; simp)
          have HX10 := Lib.hid (show W9.heap[w8.heap.size]? = some (.cells #[.slice b0 m0 d0, .slice b1 m1 d1, .slice b2 m2 d2] 27) from by rw [hW9]; exact alloc_heap_new w8 _)
          have HY10 := Lib.hid (show ∀ k, k < w8.heap.size → W9.heap[k]? = w8.heap[k]? from fun k hk => by rw [hW9]; exact Below.heap_alloc _ _ _ hk)
          rw [← hW9]
          clear hW9
          obtain ⟨VB, hbx, hbr⟩ := HBI.out.box
          obtain ⟨e0, f0, e1, f1, e2, f2, hv0, hv1, hv2⟩ := (show AR wr.heap.size wr VB (leastA A k) from fun x hx => (hbr x hx).rs (fun g hg => hg.2.2)).open
          obtain ⟨n0, hn0⟩ : ∃ n0, n0 = (leastA A k 0).length := ⟨_, rfl⟩
          obtain ⟨n1, hn1⟩ : ∃ n1, n1 = (leastA A k 1).length := ⟨_, rfl⟩
          obtain ⟨n2, hn2⟩ : ∃ n2, n2 = (leastA A k 2).length := ⟨_, rfl⟩
          rw [← hn0] at hv0
          rw [← hn1] at hv1
          rw [← hn2] at hv2
          rw [hv0, hv1, hv2] at hbx
          have HVB := Lib.hid (And.intro hv0 (And.intro hv1 hv2))
          have HBR := Lib.hid hbr
          have hbl := (Array.getElem?_eq_some_iff.1 hbx).1
          have hbx9 := (HB10.out.block _ hbl).trans hbx
          have HBX9 := Lib.hid hbx9
          have hbl9 : w6.heap.size < W9.heap.size := Nat.lt_of_lt_of_le hbl HB10.out.size
          have hyl9 : w8.heap.size < W9.heap.size := by have := HS10.out; omega
          have q0 := fun (y : Later W9) => ((bcell y.h).1 w6.heap.size 0 hbl9).trans (cell_of_heap hbx9 0)
          have q1 := fun (y : Later W9) => ((bcell y.h).1 w6.heap.size 1 hbl9).trans (cell_of_heap hbx9 1)
          have q2 := fun (y : Later W9) => ((bcell y.h).1 w6.heap.size 2 hbl9).trans (cell_of_heap hbx9 2)
          have y0 := fun (y : Later W9) => ((bcell y.h).1 w8.heap.size 0 hyl9).trans (cell_of_heap HX10.out 0)
          have y1 := fun (y : Later W9) => ((bcell y.h).1 w8.heap.size 1 hyl9).trans (cell_of_heap HX10.out 1)
          have y2 := fun (y : Later W9) => ((bcell y.h).1 w8.heap.size 2 hyl9).trans (cell_of_heap HX10.out 2)
          simp only [List.getElem?_toArray, List.getElem?_cons_zero, List.getElem?_cons_succ] at q0 q1 q2 y0 y1 y2
          have HCY := Lib.hid (show ∀ W', Below W9.heap.size W9 W' → Calls Tryz.prog 71 #[.agg #[.slice b0 m0 d0, .slice b1 m1 d1, .slice b2 m2 d2]] W' fun e w' => e = .returned (str (codeL (canA A k))) ∧ Below W'.heap.size W' w' from fun W' hB => by
            obtain ⟨s1, s2, s3⟩ := numA_small HXA.out.2.1 (p := k) (by rw [HLN.out.1]; exact hkm) (by rw [HLN.out.1]; have := HN.out; omega)
            have h := cover_code V8 (canA A k) W' (fun x hx => ((HF8.out x hx).to (w' := W') (C' := fun g => g < w8.heap.size) (fun g hg => ⟨hg.2, (hB.block g (by have := HS10.out; omega)).trans (HY10.out g hg.2)⟩)).rs (fun g hg => by have := hB.size; have := HS10.out; omega)) s1 s2 s3
            unfold actV at h
            rw [HV8.out.1, HV8.out.2.1, HV8.out.2.2] at h
            exact h)
          have HCB := Lib.hid (show ∀ W', Below W9.heap.size W9 W' → Calls Tryz.prog 71 #[.agg #[.slice e0 n0 f0, .slice e1 n1 f1, .slice e2 n2 f2]] W' fun e w' => e = .returned (str (codeL (leastA A k))) ∧ Below W'.heap.size W' w' from fun W' hB => by
            obtain ⟨s1, s2, s3⟩ := leastA_small HXA.out.2.1 (i := k) (by rw [HLN.out.1]; omega)
            have h := cover_code VB (leastA A k) W' (fun x hx => ((HBR.out x hx).to (w' := W') (C' := fun g => g < wr.heap.size) (fun g hg => ⟨hg.2.2, (hB.block g (by have := HB10.out.size; omega)).trans (HB10.out.block g hg.2.2)⟩)).rs (fun g hg => by have := hB.size; have := HB10.out.size; omega)) s1 s2 s3
            unfold actV at h
            rw [HVB.out.1, HVB.out.2.1, HVB.out.2.2] at h
            exact h)
          clear hbx hbr hv0 hv1 hv2 hn0 hn1 hn2 hbl hbx9 hbl9 hyl9
          refine wpIn_region_segs (Open.round l) [([0, 2], [1, 3])] 4 (fun w' => ∃ y : Later W9, w' = y.W) ⟨⟨W9.drew, (Below.refl _ _).drew⟩, rfl⟩ (by kernel_rfl) (by kernel_rfl) ?_
          simp only [List.map_cons, List.map_nil, pickOps, List.flatMap_cons, List.flatMap_nil, List.cons_append, List.nil_append, List.take_succ_cons, List.take_zero, List.drop_succ_cons, List.drop_zero, wpSegs]
          repeat (go_big_quiet_step (fail))
          refine wpQuiet_nil ?_
          refine wpG_step ?_
          intro K2 hK2
          go_wp2_with fail
          refine (HCY.out _ ((Below.refl _ _).drew)).mono ?_
          rintro e w10 ⟨rfl, hB⟩
          have HB11 := Lib.hid (show Below W9.heap.size W9 w10 from below_undrew hB)
          clear hB
          unfold str
          go_wp2_with fail
          refine ⟨⟨⟨w10, HB11.out⟩, rfl⟩, hK2 _ _ ?_⟩
          clear hK2
          refine wpG_step ?_
          intro K3 hK3
          go_wp2_with fail
          refine (HCB.out _ HB11.out).mono ?_
          rintro e w11 ⟨rfl, hB⟩
          have HB12 := Lib.hid (HB11.out.trans (hB.mono HB11.out.size))
          clear hB
          unfold str
          go_wp2_with fail
          refine ⟨⟨⟨w11, HB12.out⟩, rfl⟩, hK3 _ _ ?_⟩
          clear hK3
          refine wpG_nil ?_
          clear q0 q1 q2 y0 y1 y2
          have hk5 : (k : Int) < 5 := by have := HN.out; have := HKM.out; omega
          cases hlt : bytesLess (codeL (canA A k)) (codeL (leastA A k)) with
          | true =>
            have hbx11 := (HB12.out.block _ (Array.getElem?_eq_some_iff.1 HBX9.out).1).trans HBX9.out
            have hyx11 := (HB12.out.block _ (Array.getElem?_eq_some_iff.1 HX10.out).1).trans HX10.out
            have y0 := cell_of_heap hyx11 0
            have y1 := cell_of_heap hyx11 1
            have y2 := cell_of_heap hyx11 2
            have q0 := cell_of_heap hbx11 0
            have q1 := cell_of_heap hbx11 1
            have q2 := cell_of_heap hbx11 2
            have f0 := free_of_heap hbx11 0
            have f1 := free_of_heap hbx11 1
            have f2 := free_of_heap hbx11 2
            simp only [List.getElem?_toArray, List.getElem?_cons_zero, List.getElem?_cons_succ] at q0 q1 q2 y0 y1 y2 f0 f1 f2
            have HBX11 := Lib.hid hbx11
            clear hbx11 hyx11
            gi_wp2_with fail
            clear q0 q1 q2 y0 y1 y2 f0 f1 f2
            have hone : Only (fun x => x = w6.heap.size) w11 (((w11.setCell ⟨w6.heap.size, 0, none⟩ (.slice b0 m0 d0)).setCell ⟨w6.heap.size, 1, none⟩ (.slice b1 m1 d1)).setCell ⟨w6.heap.size, 2, none⟩ (.slice b2 m2 d2)) :=
              ((only_one w11 _ 0 _).trans (only_one _ _ 1 _)).trans (only_one _ _ 2 _)
            have h9 := heap_three w11 w6.heap.size (.slice b0 m0 d0) (.slice b1 m1 d1) (.slice b2 m2 d2) HBX11.out
            generalize ((w11.setCell ⟨w6.heap.size, 0, none⟩ (.slice b0 m0 d0)).setCell ⟨w6.heap.size, 1, none⟩ (.slice b1 m1 d1)).setCell ⟨w6.heap.size, 2, none⟩ (.slice b2 m2 d2) = W12 at hone h9 ⊢
            have hz10 := HB10.out.size
            have hz12 := HB12.out.size
            have hz1 := hone.size
            have hzw := HBW.out.size
            have hz9 := HB9.out.size
            have hbl : w6.heap.size < wr.heap.size := by
              obtain ⟨_, h, _⟩ := HBI.out.box
              exact (Array.getElem?_eq_some_iff.1 h).1
            have HNX := Lib.hid (show BestI A W4.heap.size w6.heap.size W5 (k + 1) W12 from ⟨⟨V8, by rw [HV8.out.1, HV8.out.2.1, HV8.out.2.2]; exact h9, fun x hx => by
                have e : leastA A (k + 1) = canA A k := by unfold leastA; rw [if_pos hlt]
                rw [e]
                exact (HF8.out x hx).to (fun g hg => ⟨⟨by omega, by omega, by have := HS10.out; omega⟩, (hone.block g (by omega)).trans ((HB12.out.block g (by have := HS10.out; omega)).trans (HY10.out g hg.2))⟩)⟩,
              ((HBI.out.on.trans (Only.of_below HB10.out (fun x hx => .inr (by have := HBI.out.on.size; omega)))).trans (Only.of_below HB12.out (fun x hx => .inr (by have := HBI.out.on.size; omega)))).trans (hone.mono (fun x hx => .inl hx))⟩)
            clear hone h9
            have hk1 := HKM.out
            have hk2 := HN.out
            go_roundw
            case rel => exact ⟨k + 1, by go_num, by omega, HNX⟩
            case measure => simp [intOf]; omega
          | false =>
            gi_wp2_with fail
            have hz10 := HB10.out.size
            have hz12 := HB12.out.size
            have HNX := Lib.hid (show BestI A W4.heap.size w6.heap.size W5 (k + 1) w11 from ⟨⟨VB, by rw [HVB.out.1, HVB.out.2.1, HVB.out.2.2]; exact (HB12.out.block _ (Array.getElem?_eq_some_iff.1 HBX9.out).1).trans HBX9.out, fun x hx => by
                have e : leastA A (k + 1) = leastA A k := by rw [leastA, if_neg (by rw [hlt]; simp)]
                rw [e]
                exact (HBR.out x hx).to (fun g hg => ⟨⟨hg.1, hg.2.1, by omega⟩, (HB12.out.block g (by omega)).trans (HB10.out.block g hg.2.2)⟩)⟩,
              (HBI.out.on.trans (Only.of_below HB10.out (fun x hx => .inr (by have := HBI.out.on.size; omega)))).trans (Only.of_below HB12.out (fun x hx => .inr (by have := HBI.out.on.size; omega)))⟩)
            have hk1 := HKM.out
            have hk2 := HN.out
            go_roundw
            case rel => exact ⟨k + 1, by go_num, by omega, HNX⟩
            case measure => simp [intOf]; omega
        · obtain rfl : k = m := by omega
          have hki : ¬ (k : Int) < (k : Int) := by omega
          gi_upto_region 14 with fail
          obtain ⟨VB, hbx, hbr⟩ := HBI.out.box
          obtain ⟨e0, f0, e1, f1, e2, f2, hv0, hv1, hv2⟩ := (show AR wr.heap.size wr VB (leastA A k) from fun x hx => (hbr x hx).rs (fun g hg => hg.2.2)).open
          obtain ⟨n0, hn0⟩ : ∃ n0, n0 = (leastA A k 0).length := ⟨_, rfl⟩
          obtain ⟨n1, hn1⟩ : ∃ n1, n1 = (leastA A k 1).length := ⟨_, rfl⟩
          obtain ⟨n2, hn2⟩ : ∃ n2, n2 = (leastA A k 2).length := ⟨_, rfl⟩
          rw [← hn0] at hv0
          rw [← hn1] at hv1
          rw [← hn2] at hv2
          rw [hv0, hv1, hv2] at hbx
          have HVB := Lib.hid (And.intro hv0 (And.intro hv1 hv2))
          have HBR := Lib.hid hbr
          have hbl := (Array.getElem?_eq_some_iff.1 hbx).1
          have hmv := (HBI.out.on.block (mb + 1) (by have := (Array.getElem?_eq_some_iff.1 HI4.out.box).1; have := HB7.out.size; omega)).trans ((HB7.out.block _ (Array.getElem?_eq_some_iff.1 HI4.out.box).1).trans HI4.out.box)
          have hmvl := (Array.getElem?_eq_some_iff.1 hmv).1
          have q0 := fun (y : Later wr) => ((bcell y.h).1 w6.heap.size 0 hbl).trans (cell_of_heap hbx 0)
          have q1 := fun (y : Later wr) => ((bcell y.h).1 w6.heap.size 1 hbl).trans (cell_of_heap hbx 1)
          have q2 := fun (y : Later wr) => ((bcell y.h).1 w6.heap.size 2 hbl).trans (cell_of_heap hbx 2)
          have qm := fun (y : Later wr) => ((bcell y.h).1 (mb + 1) 0 hmvl).trans (cell_of_heap hmv 0)
          simp only [List.getElem?_toArray, List.getElem?_cons_zero, List.getElem?_cons_succ] at q0 q1 q2 qm
          have HCB := Lib.hid (show ∀ W', Below wr.heap.size wr W' → Calls Tryz.prog 71 #[.agg #[.slice e0 n0 f0, .slice e1 n1 f1, .slice e2 n2 f2]] W' fun e w' => e = .returned (str (codeL (leastA A k))) ∧ Below W'.heap.size W' w' from fun W' hB => by
            obtain ⟨s1, s2, s3⟩ := leastA_small HXA.out.2.1 (i := k) (by rw [HLN.out.1]; omega)
            have h := cover_code VB (leastA A k) W' (fun x hx => ((HBR.out x hx).to (w' := W') (C' := fun g => g < wr.heap.size) (fun g hg => ⟨hg.2.2, hB.block g hg.2.2⟩)).rs (fun g hg => by have := hB.size; omega)) s1 s2 s3
            unfold actV at h
            rw [HVB.out.1, HVB.out.2.1, HVB.out.2.2] at h
            exact h)
          clear hbx hbr hv0 hv1 hv2 hn0 hn1 hn2 hbl hmv hmvl
          refine wpIn_region_segs (Open.round l) [([0, 1, 3], [2])] 4 (fun w' => ∃ y : Later wr, w' = y.W) ⟨⟨wr.drew, (Below.refl _ _).drew⟩, rfl⟩ (by kernel_rfl) (by kernel_rfl) ?_
          simp only [List.map_cons, List.map_nil, pickOps, List.flatMap_cons, List.flatMap_nil, List.cons_append, List.nil_append, List.take_succ_cons, List.take_zero, List.drop_succ_cons, List.drop_zero, wpSegs]
          repeat (go_big_quiet_step (fail))
          refine wpQuiet_nil ?_
          refine wpG_step ?_
          intro K2 hK2
          go_wp2_with fail
          refine (HCB.out _ ((Below.refl _ _).drew)).mono ?_
          rintro e w10 ⟨rfl, hB⟩
          have HB11 := Lib.hid (show Below wr.heap.size wr w10 from below_undrew hB)
          clear hB
          go_wp2_with fail
          refine ⟨⟨⟨w10, HB11.out⟩, rfl⟩, hK2 _ _ ?_⟩
          clear hK2
          refine wpG_nil ?_
          clear q0 q1 q2 qm
          have hon10 : Only (fun x => x = w6.heap.size ∨ W5.heap.size ≤ x) W5 w10 := HBI.out.on.trans (Only.of_below HB11.out (fun x hx => .inr (by have := HBI.out.on.size; omega)))
          have hold10 : ∀ x, x < W4.heap.size → w10.heap[x]? = W4.heap[x]? := fun x hx => (hon10.block x (by have := HB7.out.size; omega)).trans (HB7.out.block x hx)
          have hz10 : W4.heap.size ≤ w10.heap.size := Nat.le_trans HB7.out.size hon10.size
          have hI10 := (LstI.stable (Own := fun _ => False)) i C W4 w10 HI4.out (fun x hx => hold10 x (by have := HCF.out x (hx.elim id (fun h => h.elim)); have := HS4'.out; omega)) hz10
          obtain ⟨kv, hmp, hkeys, hents⟩ := hI10.mp
          obtain ⟨ob, hput, hmp2⟩ := hmp.put keys_str Tryz.underlying207 (codeL (leastA A k)) (.agg #[.slice e0 n0 f0, .slice e1 n1 f1, .slice e2 n2 f2])
          have HI10 := Lib.hid hI10; have HMP2 := Lib.hid hmp2; have HKEYS := Lib.hid hkeys; have HENTS := Lib.hid hents; have HON10 := Lib.hid hon10; have HOLD10 := Lib.hid hold10
          clear hI10 hmp hkeys hents hmp2 hon10 hold10
          gi_wp2_with fail
          have hone : Only (fun x => x = mb) w10 (w10.putObj mb ob) := only_putObj (B := fun x => x = mb) w10 rfl _
          have hz5 := HB7.out.size
          have hz4 := HS4'.out
          have hz11 := hone.size
          have hCW : ∀ x, C x → x < W3.heap.size := HCF.out
          have hbl := HLOWM.out
          refine ⟨(Only.of_below HB7.out (fun x hx => .inr (by omega))).trans ((HON10.out.mono (fun x hx => .inr (by omega))).trans (hone.mono (fun x hx => .inl (by rw [hx]; exact HI10.out.cm)))),
            fun x => C x ∨ (W3.heap.size ≤ x ∧ x < (w10.putObj mb ob).heap.size), fun x hx => ⟨hx.imp id (fun h => h.1), hx.elim (fun h => by have := hCW x h; omega) (fun h => h.2)⟩,
            ⟨.inl HI10.out.cv, .inl HI10.out.cm, HI10.out.ne, (hone.block _ (by omega)).trans HI10.out.box, ⟨_, HMP2.out, ?_, ?_⟩, fun x hx => hx.elim (HI10.out.low x) (fun h => by omega)⟩, ?_⟩
          · rw [mput_keys, HKEYS.out, lstK_succ HXA.out.1]
            by_cases hin : codeL (leastA A k) ∈ lstK o k i
            · rw [if_pos hin, if_pos hin]
            · rw [if_neg hin, if_neg hin]
          · intro p hp
            rcases mput_mem hp with rfl | hp
            · refine ⟨VB, leastA A k, ?_, ⟨A, List.mem_of_getElem? HXA.out.1, HXA.out.2.1, HLN.out.1, rfl⟩, rfl, fun x hx => (HBR.out x hx).to (fun g hg => ⟨⟨.inr ⟨by omega, ?_⟩, by omega, by omega⟩, ?_⟩)⟩
              · unfold actV; rw [HVB.out.1, HVB.out.2.1, HVB.out.2.2]
              · have := HB11.out.size; omega
              · exact (hone.block g (by omega)).trans (HB11.out.block g hg.2.2)
            · exact (HENTS.out p hp).to (fun g hg => ⟨⟨.inl hg.1, hg.2⟩, hone.block g hg.2.2⟩)
          · exact (hone.block _ (by omega)).trans ((HOLD10.out _ (Array.getElem?_eq_some_iff.1 HNB4.out).1).trans HNB4.out)
  · go_wp2_with fail
    refine postX_panic ?_
    refine leaves_cons (f := 111) (args := #[.pointer (some ⟨w.heap.size + 2, 0, none⟩), .pointer (some ⟨w.heap.size + 3, 0, none⟩)]) (by simp) (by simp [go_sem]) ?_
    refine (caught_acts_panic (w.heap.size + 2) (w.heap.size + 3) _ 0 er w1 (by omega) HQ22.out HQ33.out).mono ?_
    rintro e u' w'' ⟨rfl, rfl, h0, h1, hO⟩
    have e2 := cell_of_heap h0 0
    have e3 := cell_of_heap h1 0
    simp at e2 e3
    simp only [Leaves, settle]
    exact ⟨.tuple #[.slice none 0 0, .int .i64 er], by simp [results, Tryz.results49, go_sem, e2, e3], _, rfl, (HB1.out.trans (HB2.out.mono HB1.out.size)).trans (hO.below (fun k hk => by have := HS1.out; have := HB2.out.size; omega)), fun _ => rfl, fun h => absurd h hz⟩
end Go.Proofs.YtfdklmpkienfhaaGreat
