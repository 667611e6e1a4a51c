/- Package cover: the code of a canonical action; the number of subgroups. -/
import Derived.Test.YtfdklmpkienfhaaGreatLvs
import Derived.Test.YtfdklmpkienfhaaGreatMapS
namespace Go.Proofs.YtfdklmpkienfhaaGreat
set_option linter.unusedSimpArgs false
set_option linter.unusedVariables false
open Go.RowKit
open Cov (backsL triA)

theorem idx_le : ∀ (L : List Nat) (y : Nat), L.idxOf y ≤ L.length
  | [], y => by simp
  | a :: r, y => by
    have := idx_le r y
    rw [List.idxOf_cons]
    cases (a == y) with
    | true => simp
    | false => simpa using this
/-- The canonical action's lists are short, its numbers small. -/
theorem numA_small {A : Nat → List Int} (hs : Shaped A) {p : Nat} (hp : p < (A 0).length) (h200 : (A 0).length ≤ 200) :
    0 < (numA (letters A) (A 0).length p 0).length ∧ (∀ i, i < 3 → (numA (letters A) (A 0).length p i).length ≤ 1000) ∧ ∀ i, i < 3 → ∀ x ∈ numA (letters A) (A 0).length p i, 0 ≤ x ∧ x < 256 := by
  have hpt := Cov.pts_met hs.into hp
  have hl := hpt.len
  refine ⟨?_, fun i _ => by rw [numA_len]; omega, fun i _ x hx => ?_⟩
  · rw [numA_len]; exact List.length_pos_of_mem (Cov.met_self _ _ _)
  · unfold numA at hx
    obtain ⟨k, hk, rfl⟩ := List.mem_map.1 hx
    refine ⟨by omega, ?_⟩
    have := idx_le (Cov.met (letters A) (A 0).length p) (letters A i ((Cov.met (letters A) (A 0).length p).getD k 0))
    have h2 : Cov.num (letters A) (A 0).length p i k ≤ 200 := by
      unfold Cov.num
      exact Nat.le_trans this (by omega)
    omega

theorem keys_str : Keys Tryz.prog 9 str := keys_string Tryz.underlying9

/-- The canonical action from a point on; its code. -/
def canA (A : Nat → List Int) (p : Nat) : Nat → List Int := numA (letters A) (A 0).length p
def canC (A : Nat → List Int) (p : Nat) : List UInt8 := codeL (canA A p)
/-- The map of codes behind i actions. -/
noncomputable def subKV (o : Hy.Ord) (n i : Nat) : List (List UInt8 × Bool) := ((actsL o n).take i).foldl (fun kv A => mput (canC A 0) true kv) []
theorem subKV_succ {o : Hy.Ord} {n i : Nat} {A : Nat → List Int} (h : (actsL o n)[i]? = some A) : subKV o n (i + 1) = mput (canC A 0) true (subKV o n i) := by
  unfold subKV
  rw [List.take_add_one, h, List.foldl_append]
  rfl
noncomputable def subN (o : Hy.Ord) (n : Nat) : Nat := (subKV o n (actsL o n).length).length

/-- What holds ahead of round i. -/
structure SubI (o : Hy.Ord) (n mv mb base : Nat) (i : Nat) (C : Nat → Prop) (W : World) : Prop where
  cv : C mv
  cm : C mb
  ne : mv ≠ mb
  box : W.heap[mv]? = some (.cells #[.map (some mb)] 213)
  mp : MapAt W str Value.bool mb (subKV o n i)
  low : ∀ k, C k → base ≤ k
theorem SubI.stable {o : Hy.Ord} {n mv mb base : Nat} {Own : Nat → Prop} : Stable Own (SubI o n mv mb base) := by
  rintro i C W W' ⟨h1, h2, h3, h4, h5, h6⟩ hs hsz
  exact ⟨h1, h2, h3, (hs mv (.inl h1)).trans h4, h5.of_heap (hs mb (.inl h2)), h6⟩

attribute [local go_sem] Oper.semAt_some

set_option maxRecDepth 100000 in
set_option maxHeartbeats 4000000 in
theorem cover_Subgroups (a b c n : Int) (w : World) :
    Calls Tryz.prog 50 #[ordersV a b c, .int .i64 n] w fun e w' => e = .returned (.tuple #[.int .i64 (if idxErr a b c n = 0 then ((subN (ordN a b c) n.toNat : Nat) : Int) else 0), .int .i64 (idxErr a b c n)]) ∧ Below w.heap.size w w' := by
  have HIX := Lib.hid (fun W => cover_index a b c n W)
  have HACT := Lib.hid (fun W => cover_actions a b c n W)
  obtain ⟨hs1, hB1, q0, q1, q2⟩ := alloc3 w (.cells #[.int .i64 a, .int .i64 b, .int .i64 c] 23) (.cells #[.int .i64 0] 3) (.cells #[.int .i64 0] 39)
  obtain ⟨W1, hW1⟩ : ∃ W1, W1 = ((w.alloc (.cells #[.int .i64 a, .int .i64 b, .int .i64 c] 23)).alloc (.cells #[.int .i64 0] 3)).alloc (.cells #[.int .i64 0] 39) := ⟨_, rfl⟩
  rw [← hW1] at hs1 hB1 q0 q1 q2
  have HQ0 := Lib.hid q0; have HQ1 := Lib.hid q1; have HQ2 := Lib.hid q2
  have HS1 := Lib.hid hs1; have HB1 := Lib.hid hB1
  clear q0 q1 q2 hs1 hB1
  obtain ⟨er, her⟩ : ∃ er, er = idxErr a b c n := ⟨_, rfl⟩
  have HER := Lib.hid her
  rw [← her] at HIX ⊢
  clear her
  unfold ordersV at *
  refine calls_of_wp_X Tryz.func50 rfl ?_
  simp only [Tryz.ntmps50, List.size_toArray, List.length_cons, List.length_nil, Nat.reduceAdd, Nat.reduceSub, Array.replicate_succ, Array.replicate_zero, List.push_toArray, List.append_toArray, List.nil_append, List.cons_append]
  go_upto_region 1 with fail
  rw [← hW1]
  clear hW1
  have k0 := cell_of_heap HQ0.out 0
  have k1 := cell_of_heap HQ0.out 1
  have k2 := cell_of_heap HQ0.out 2
  simp only [List.getElem?_toArray, List.getElem?_cons_zero, List.getElem?_cons_succ] at k0 k1 k2
  go_wp2_with fail
  refine (HIX.out _).mono ?_
  rintro e w1 ⟨hcase, hB⟩
  have HB2 := Lib.hid hB
  clear hB k0 k1 k2
  have hl : w.heap.size + 2 < W1.heap.size := by have := HS1.out; omega
  have hq0 := (HB2.out.block _ (show w.heap.size < W1.heap.size by omega)).trans HQ0.out
  have HQ00 := Lib.hid hq0
  have HQ11 := Lib.hid ((HB2.out.block _ (show w.heap.size + 1 < W1.heap.size by omega)).trans HQ1.out)
  have HQ22 := Lib.hid ((HB2.out.block _ hl).trans HQ2.out)
  rcases hcase with ⟨hz, rfl⟩ | ⟨hz, rfl⟩
  · obtain ⟨ho, hn1, hn5⟩ := idx_zero (by rw [← HER.out]; exact hz)
    obtain ⟨m, rfl⟩ : ∃ m : Nat, n = m := ⟨n.toNat, by omega⟩
    subst hz
    have HO := Lib.hid ho
    have HN := Lib.hid (show 1 ≤ m ∧ m ≤ 5 by omega)
    clear ho hn1 hn5
    have hmm := @run_makeMap Tryz.prog
    have k0 := cell_of_heap hq0 0
    have k1 := cell_of_heap hq0 1
    have k2 := cell_of_heap hq0 2
    simp only [List.getElem?_toArray, List.getElem?_cons_zero, List.getElem?_cons_succ] at k0 k1 k2
    clear hq0
    go_upto_region 4 with fail
    obtain ⟨W2, hW2⟩ : ∃ W2, W2 = (w1.alloc (.map #[] 0)).alloc (.cells #[.map (some w1.heap.size)] 213) := ⟨_, rfl⟩
    have HB3 := Lib.hid (show Below w1.heap.size w1 W2 from by rw [hW2]; exact ((Below.refl _ _).alloc (Nat.le_refl _) _).alloc (by simp) _)
    have HS3 := Lib.hid (show W2.heap.size = w1.heap.size + 2 from by rw [hW2]; simp)
    have HMP2 := Lib.hid (show MapAt W2 str Value.bool w1.heap.size ([] : List (List UInt8 × Bool)) from by
      rw [hW2]
      exact (mapAt_new w1 _ _).of_heap (heap_alloc_lt _ _ (by simp)))
    have HMV2 := Lib.hid (show W2.heap[w1.heap.size + 1]? = some (.cells #[.map (some w1.heap.size)] 213) from by
      rw [hW2]
      have := alloc_heap_new (w1.alloc (.map #[] 0)) (.cells #[.map (some w1.heap.size)] 213)
      rwa [World.size_alloc] at this)
    rw [← hW2]
    clear hW2 hmm k0 k1 k2
    have hl0 : w.heap.size < w1.heap.size := by have := HB2.out.size; omega
    have hq0 := (HB3.out.block _ hl0).trans HQ00.out
    have k0 := cell_of_heap hq0 0
    have k1 := cell_of_heap hq0 1
    have k2 := cell_of_heap hq0 2
    simp only [List.getElem?_toArray, List.getElem?_cons_zero, List.getElem?_cons_succ] at k0 k1 k2
    clear hq0
    go_wp2_with fail
    refine (HACT.out _).mono ?_
    rintro e w3 ⟨rfl, hB, hs, hob, hnb⟩
    have HB4 := Lib.hid hB; have HS4 := Lib.hid hs
    have HIT := Lib.hid (actions_iter (fun _ => False) HO.out HN.out hnb hob)
    clear hB hs hob hnb k0 k1 k2
    obtain ⟨o, ho⟩ : ∃ o, o = ordN a b c := ⟨_, rfl⟩
    rw [← ho] at HIT
    have HOO := Lib.hid ho
    clear ho
    have HMP3 := Lib.hid (HMP2.out.of_heap (HB4.out.block _ HMP2.out.lt))
    have HMV3 := Lib.hid ((HB4.out.block _ (show w1.heap.size + 1 < W2.heap.size by have := HS3.out; omega)).trans HMV2.out)
    go_wp2_with fail
    obtain ⟨mb, hmb⟩ : ∃ mb, mb = w1.heap.size := ⟨_, rfl⟩
    have HZ := Lib.hid (show w.heap.size + 2 < mb ∧ W2.heap.size = mb + 2 ∧ w3.heap.size = W2.heap.size + 2 from ⟨by have := HB2.out.size; omega, by have := HS3.out; omega, HS4.out⟩)
    have HMB := Lib.hid hmb
    rw [← hmb] at HMP3 HMV3 ⊢
    clear hmb
    refine wp_rangeT (gf := 152) (lb := #[.pointer (some ⟨W2.heap.size + 1, 0, none⟩), .pointer (some ⟨W2.heap.size, 0, none⟩)]) rfl (fun args w => by simp [go_sem]) HIT.out (Nat.le_refl _) ?hps
      (SubI o m (mb + 1) mb mb) (fun _ _ _ _ => False) SubI.stable ?hIx (fun k => k = mb + 1 ∨ k = mb) ?hC0 ?hOwn ?hSh ?h0 ?hround ?hdone ?hstop
    case hps =>
      rintro i C args W ⟨V, A, rfl, _⟩
      rfl
    case hIx => exact fun c i C W W' h _ _ => h
    case hC0 =>
      intro k hk
      have := HZ.out
      rcases hk with rfl | rfl <;> omega
    case hOwn =>
      intro k hk
      have := HZ.out
      rcases hk with (hk | hk) | hk
      · exact ⟨by omega, rfl, by omega⟩
      · exact ⟨by omega, rfl, by omega⟩
      · exact hk.elim
    case hSh => exact fun k hk => hk.elim
    case h0 => exact ⟨.inl rfl, .inr rfl, by omega, HMV3.out, HMP3.out, fun k hk => by rcases hk with rfl | rfl <;> omega⟩
    case hstop => exact fun D i c C W _ _ _ h => h.elim
    case hdone =>
      intro D C9 W9 hD hDC hI hO hK
      have hz := HZ.out
      have hlen := hI.mp.len Tryz.underlying213 (P := Tryz.prog) (ty := 3)
      have hbox := cell_of_heap hI.box 0
      simp only [List.getElem?_toArray, List.getElem?_cons_zero] at hbox
      have hcl : ∀ k, k < mb → w1.heap[k]? = W9.heap[k]? := fun k hk => ((hO.block k (by
        rintro ((h | h) | h)
        · rcases h with h | h <;> omega
        · omega
        · exact h)).trans ((HB4.out.block k (by omega)).trans (HB3.out.block k (by rw [← HMB.out]; exact hk)))).symm
      have q1 := (hcl (w.heap.size + 1) (by omega)).symm.trans HQ11.out
      have q2 := (hcl (w.heap.size + 2) (by omega)).symm.trans HQ22.out
      have c1 := cell_of_heap q1 0
      have f1 := free_of_heap q1 0
      have c2 := cell_of_heap q2 0
      have f2 := free_of_heap q2 0
      simp only [List.getElem?_toArray, List.getElem?_cons_zero, List.getElem?_cons_succ] at c1 f1 c2 f2
      simp only [Exit.inBlock, Exit.then]
      have HQ1' := Lib.hid q1; have HQ2' := Lib.hid q2; have HD := Lib.hid hD; have HOO9 := Lib.hid hO; have HK := Lib.hid hK
      clear hI q1 q2 hD hO hK hcl hDC hz
      go_wp2_with fail
      clear c1 f1 c2 f2 hbox hlen
      have hz := HZ.out
      have hd := HD.out
      have h2 := heap_setCell_same W9 (w.heap.size + 1) 0 _ _ (.int .i64 ((subKV o m (actsL o m).length).length : Int)) HQ1'.out
      have h3 := (heap_setCell_other W9 ⟨w.heap.size + 1, 0, none⟩ (w.heap.size + 2) (.int .i64 ((subKV o m (actsL o m).length).length : Int)) (by simp)).trans HQ2'.out
      have h4 := (heap_setCell_other W9 ⟨w.heap.size + 1, 0, none⟩ D (.int .i64 ((subKV o m (actsL o m).length).length : Int)) (by dsimp only; omega)).trans HK.out
      have d3 := heap_setCell_same _ (w.heap.size + 2) 0 _ _ (.int .i64 0) h3
      have d2 := (heap_setCell_other _ ⟨w.heap.size + 2, 0, none⟩ (w.heap.size + 1) (.int .i64 0) (by simp)).trans h2
      have d4 := (heap_setCell_other _ ⟨w.heap.size + 2, 0, none⟩ D (.int .i64 0) (by dsimp only; omega)).trans h4
      refine postX_mark rfl d4 ?_
      obtain ⟨W10, hW10⟩ : ∃ W10, W10 = (W9.setCell ⟨w.heap.size + 1, 0, none⟩ (.int .i64 ((subKV o m (actsL o m).length).length : Int))).setCell ⟨w.heap.size + 2, 0, none⟩ (.int .i64 0) := ⟨_, rfl⟩
      rw [← hW10] at d2 d3 d4
      have hB10 : Below w.heap.size w W10 := by
        rw [hW10]
        refine ((((HB1.out.trans (HB2.out.mono HB1.out.size)).trans (HB3.out.mono (by omega))).trans (HB4.out.mono (by omega))).trans (HOO9.out.below (fun k hk => ?_)) |>.setCell (by dsimp only; omega) _).setCell (by dsimp only; omega) _
        rcases hk with (hk | hk) | hk
        · rcases hk with h | h <;> omega
        · omega
        · exact hk.elim
      have hone : Only (fun k => k = D) W10 (W10.putObj D (.deferred none)) := only_putObj (B := fun k => k = D) W10 rfl _
      have e2' := (hone.block (w.heap.size + 1) (by omega)).trans d2
      have e3' := (hone.block (w.heap.size + 2) (by omega)).trans d3
      have hB11 := hB10.trans (hone.below (fun k hk => by omega))
      show Leaves _ _ _ _ _ _ (((W9.setCell ⟨w.heap.size + 1, 0, none⟩ (.int .i64 ((subKV o m (actsL o m).length).length : Int))).setCell ⟨w.heap.size + 2, 0, none⟩ (.int .i64 0)).putObj D (.deferred none))
      rw [← hW10]
      generalize W10.putObj D (.deferred none) = W11 at *
      refine leaves_cons (f := 62) (args := #[.pointer (some ⟨w.heap.size + 1, 0, none⟩), .pointer (some ⟨w.heap.size + 2, 0, none⟩)]) (by simp) (by simp [go_sem]) ?_
      refine (caught_int_idle ⟨w.heap.size + 1, 0, none⟩ ⟨w.heap.size + 2, 0, none⟩ _).mono ?_
      rintro e u' w'' ⟨rfl, rfl, rfl⟩
      have e2 := cell_of_heap e2' 0
      have e3 := cell_of_heap e3' 0
      simp at e2 e3
      simp [Leaves, settle, results, Tryz.results50, go_sem, e2, e3]
      exact ⟨by rw [← HOO.out]; rfl, hB11⟩
    case hround =>
      rintro l i C args W3 hi ⟨V, A, rfl, hxa, hsa, hla, hqa⟩ hI hC hsz hCl hlW hOl
      simp only [actV, List.zip_toArray, List.zip_cons_cons, List.zip_nil_left, List.size_toArray, List.foldl_toArray, List.foldl_cons, List.foldl_nil, List.setIfInBounds_toArray, List.set_cons_succ, List.set_cons_zero]
      have HI := Lib.hid hI
      have HCF := Lib.hid hC
      have HL1 := Lib.hid (And.intro hCl hlW)
      have HXA := Lib.hid (And.intro hxa (And.intro hsa hla))
      have HQA := Lib.hid hqa
      obtain ⟨v0, hv0⟩ : ∃ v, V 0 = v := ⟨_, rfl⟩
      obtain ⟨v1, hv1⟩ : ∃ v, V 1 = v := ⟨_, rfl⟩
      obtain ⟨v2, hv2⟩ : ∃ v, V 2 = v := ⟨_, rfl⟩
      have HV := Lib.hid (And.intro hv0 (And.intro hv1 hv2))
      obtain ⟨ga, offa, capa, hva⟩ : ∃ g off cap, v0 = .slice (some ⟨g, off, none⟩) m cap := by
        obtain ⟨g, ⟨off, cap, h, _⟩, _⟩ := hqa 0 (by omega)
        exact ⟨g, off, cap, hv0.symm.trans h⟩
      obtain ⟨gb, offb, capb, hvb⟩ : ∃ g off cap, v1 = .slice (some ⟨g, off, none⟩) m cap := by
        obtain ⟨g, ⟨off, cap, h, _⟩, _⟩ := hqa 1 (by omega)
        exact ⟨g, off, cap, hv1.symm.trans h⟩
      obtain ⟨gc, offc, capc, hvc⟩ : ∃ g off cap, v2 = .slice (some ⟨g, off, none⟩) m cap := by
        obtain ⟨g, ⟨off, cap, h, _⟩, _⟩ := hqa 2 (by omega)
        exact ⟨g, off, cap, hv2.symm.trans h⟩
      rw [hv0, hv1, hv2]
      subst hva hvb hvc
      clear hI hC hCl hlW hOl hqa hxa hsa hla hsz hi hv0 hv1 hv2
      gi_wp2_with fail
      refine ⟨(Only.refl _ W3).alloc (fun k hk => .inr hk) _, ?_⟩
      intro W4 hs4 hk4 r4 hr4
      have hs4' : W4.heap.size = W3.heap.size + 1 := by simpa using hs4
      have hold4 : ∀ k, k < W3.heap.size → k ≠ l → W4.heap[k]? = W3.heap[k]? := fun k hk hne => (hk4 k hne).trans (Below.heap_alloc _ _ _ hk)
      have hab : W4.heap[W3.heap.size]? = some (.cells #[.slice (some ⟨ga, offa, none⟩) m capa, .slice (some ⟨gb, offb, none⟩) m capb, .slice (some ⟨gc, offc, none⟩) m capc] 27) := (hk4 _ (by have := HL1.out.2; omega)).trans (World.alloc_heap_new W3 _)
      have hI4 : SubI o m (mb + 1) mb mb i C W4 := (SubI.stable (Own := fun _ => False)) i C W3 W4 HI.out (fun k hk => hold4 k (HCF.out k (hk.elim id (fun h => h.elim))) (fun e => HL1.out.1 (e ▸ hk.elim id (fun h => h.elim)))) (by omega)
      have hA4 : AR W4.heap.size W4 V A := fun x hx => by
        obtain ⟨g, hq, hg⟩ := HQA.out x hx
        have hq4 := hq.of_heap (hold4 g hq.bd (fun e => hg (.inr (.inr e)))) (by omega)
        have hl : (A x).length = m := by
          have h2 := HXA.out.2.1.1
          have h3 := HXA.out.2.2
          obtain rfl | rfl | rfl : x = 0 ∨ x = 1 ∨ x = 2 := by omega
          · exact h3
          · rw [h2.2.2.1, h3]
          · rw [h2.2.2.2, h3]
        rw [← hl] at hq4
        exact hq4.rs (Nat.lt_of_lt_of_le hq.bd (by omega))
      have HS4' := Lib.hid hs4'; have HAB := Lib.hid hab; have HI4 := Lib.hid hI4; have HA4 := Lib.hid hA4
      clear hr4 hs4 hk4 hs4' hold4 hI4 hA4
      have hmv := HI4.out.box
      have lv : mb + 1 < W4.heap.size := (Array.getElem?_eq_some_iff.1 hmv).1
      have la : W3.heap.size < W4.heap.size := (Array.getElem?_eq_some_iff.1 hab).1
      have gm := fun (y : Later W4) => ((bcell y.h).1 (mb + 1) 0 lv).trans (cell_of_heap hmv 0)
      have g0 := fun (y : Later W4) => ((bcell y.h).1 W3.heap.size 0 la).trans (cell_of_heap hab 0)
      have g1 := fun (y : Later W4) => ((bcell y.h).1 W3.heap.size 1 la).trans (cell_of_heap hab 1)
      have g2 := fun (y : Later W4) => ((bcell y.h).1 W3.heap.size 2 la).trans (cell_of_heap hab 2)
      simp only [List.getElem?_toArray, List.getElem?_cons_zero, List.getElem?_cons_succ] at gm g0 g1 g2
      clear hmv hab lv la
      have HLN := Lib.hid (show (A 0).length = m ∧ 0 < (A 0).length from ⟨HXA.out.2.2, by rw [HXA.out.2.2]; exact HN.out.1⟩)
      have HNUM := Lib.hid (show ∀ W', Below W4.heap.size W4 W' → Calls Tryz.prog 67 #[.agg #[.slice (some ⟨ga, offa, none⟩) m capa, .slice (some ⟨gb, offb, none⟩) m capb, .slice (some ⟨gc, offc, none⟩) m capc], .int .i64 0] W' fun e w' => ∃ pv lv, e = .returned (numV V pv lv) ∧ RS w'.heap.size w' pv (intL (Cov.met (letters A) (A 0).length 0)) ∧ RS w'.heap.size w' lv (placeL (A 0).length (Cov.met (letters A) (A 0).length 0)) ∧ Below W'.heap.size W' w' from fun W' hB => by
        have h := cover_numbered V A W' (fun x hx => ((HA4.out x hx).below hB).more hB.size) HXA.out.2.1 0 HLN.out.2
        unfold actV at h
        rw [HV.out.1, HV.out.2.1, HV.out.2.2] at h
        exact h)
      gi_upto_region 6 with fail
      refine wpIn_region_segs (Open.round l) [([0, 1], [2, 3, 4])] 5 (fun w' => ∃ y : Later W4, w' = y.W) ⟨⟨W4.drew, (Below.refl _ _).drew⟩, rfl⟩ (by kernel_rfl) (by kernel_rfl) ?_
      simp only [List.map_cons, List.map_nil, pickOps, List.flatMap_cons, List.flatMap_nil, List.cons_append, List.nil_append, List.take_succ_cons, List.take_zero, List.drop_succ_cons, List.drop_zero, wpSegs]
      repeat (go_big_quiet_step (fail))
      refine wpQuiet_nil ?_
      refine wpG_step ?_
      intro K2 hK2
      go_wp2_with fail
      refine (HNUM.out _ ((Below.refl _ _).drew)).mono ?_
      rintro e w5 ⟨pv, lv, rfl, hpv, hlv, hB⟩
      have HB5 := Lib.hid (show Below W4.heap.size W4 w5 from below_undrew hB)
      have HCA := Lib.hid (cover_action V pv lv A w5 (fun x hx => ((HA4.out x hx).below HB5.out).more HB5.out.size) HXA.out.2.1 0 HLN.out.2 hpv hlv)
      clear hB hpv hlv
      go_wp2_with fail
      refine ⟨⟨⟨w5, HB5.out⟩, rfl⟩, hK2 _ _ ?_⟩
      clear hK2
      refine wpG_step ?_
      intro K3 hK3
      go_wp2_with fail
      refine HCA.out.mono ?_
      rintro e w6 ⟨V', rfl, hA6, hB, -⟩
      have HB6 := Lib.hid (HB5.out.trans (hB.mono HB5.out.size))
      obtain ⟨hc0, hc1, hc2⟩ := numA_small HXA.out.2.1 HLN.out.2 (by rw [HLN.out.1]; have := HN.out; omega)
      have HCO := Lib.hid (cover_code V' _ w6 hA6 hc0 hc1 hc2)
      clear hB hA6 hc0 hc1 hc2
      unfold actV at *
      go_wp2_with fail
      refine ⟨⟨⟨w6, HB6.out⟩, rfl⟩, hK3 _ _ ?_⟩
      clear hK3
      refine wpG_step ?_
      intro K4 hK4
      go_wp2_with fail
      refine HCO.out.mono ?_
      rintro e w7 ⟨rfl, hB⟩
      have HB7 := Lib.hid (HB6.out.trans (hB.mono HB6.out.size))
      clear hB
      go_wp2_with fail
      refine ⟨⟨⟨w7, HB7.out⟩, rfl⟩, hK4 _ _ ?_⟩
      clear hK4
      refine wpG_nil ?_
      clear gm g0 g1 g2
      have hI7 := (SubI.stable (Own := fun _ => False)) i C W4 w7 HI4.out (fun k hk => HB7.out.block k (by have := HCF.out k (hk.elim id (fun h => h.elim)); have := HS4'.out; omega)) HB7.out.size
      obtain ⟨ob, hput, hmp⟩ := hI7.mp.put keys_str Tryz.underlying213 (canC A 0) true
      have HI7 := Lib.hid hI7
      have HMP7 := Lib.hid hmp
      clear hI7 hmp
      have hput' : (Instr.mapUpdate 213 (.map (some mb)) (str (codeL (numA (letters A) (A 0).length 0))) (.bool true)).run Tryz.prog w7 = .ok () (w7.putObj mb ob) := hput
      clear hput
      gi_wp2_with fail
      have hmb7 := HMP7.out
      have hsz : W3.heap.size ≤ W4.heap.size := by have := HS4'.out; omega
      have hone : Only (fun k => k = mb) w7 (w7.putObj mb ob) := only_putObj (B := fun k => k = mb) w7 rfl _
      refine ⟨(Only.of_below HB7.out (fun k hk => .inr (by omega))).trans (hone.mono (fun k hk => .inl (by rw [hk]; exact HI7.out.cm))), C, fun k hk => ⟨.inl hk, Nat.lt_of_lt_of_le (HCF.out k hk) (Nat.le_trans hsz (Nat.le_trans HB7.out.size hone.size))⟩, HI7.out.cv, HI7.out.cm, HI7.out.ne, (hone.block _ (by omega)).trans HI7.out.box, ?_, HI7.out.low⟩
      rw [subKV_succ HXA.out.1]
      exact hmb7
  · go_wp2_with fail
    refine postX_panic ?_
    refine leaves_cons (f := 62) (args := #[.pointer (some ⟨w.heap.size + 1, 0, none⟩), .pointer (some ⟨w.heap.size + 2, 0, none⟩)]) (by simp) (by simp [go_sem]) ?_
    refine (caught_int_panic (w.heap.size + 1) (w.heap.size + 2) _ 0 er w1 (by omega) HQ11.out HQ22.out).mono ?_
    rintro e u' w'' ⟨rfl, rfl, h0, h1, hO⟩
    have e2 := cell_of_heap h0 0
    have e3 := cell_of_heap h1 0
    simp at e2 e3
    simp [Leaves, settle, results, Tryz.results50, go_sem, e2, e3, hz]
    exact (HB1.out.trans (HB2.out.mono HB1.out.size)).trans (hO.below (fun k hk => by have := HS1.out; have := HB2.out.size; omega))
end Go.Proofs.YtfdklmpkienfhaaGreat
