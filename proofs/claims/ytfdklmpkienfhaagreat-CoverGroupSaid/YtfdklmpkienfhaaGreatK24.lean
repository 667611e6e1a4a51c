/- Package cover: Tiles. -/
import Derived.Test.YtfdklmpkienfhaaGreatK23
import Derived.Test.YtfdklmpkienfhaaGreatIso
import Derived.Test.YtfdklmpkienfhaaGreatK14
import Derived.Test.YtfdklmpkienfhaaGreatK20
namespace Go.Proofs.YtfdklmpkienfhaaGreat
set_option linter.unusedSimpArgs false
set_option linter.unusedVariables false
open Go.RowKit
open Cov (Iso pairsT)

theorem full_at {a b c : Int} {A : Nat → List Int} (h : actErr a b c A = 0) {p : Nat} (hp : p < (A 0).length) : (Cov.met (letters A) (A 0).length p).length = (A 0).length := by
  obtain ⟨_, hs, hH, hF⟩ := actErr_zero h
  exact Cov.full_any hs.into (fun i x hi hx => ((hH x hx i hi)).1) hs.1.1 hp hF
theorem can_len {A : Nat → List Int} {p : Nat} (hf : (Cov.met (letters A) (A 0).length p).length = (A 0).length) (i : Nat) : (canA A p i).length = (A 0).length := by
  unfold canA; rw [numA_len, hf]
theorem can_letters {A : Nat → List Int} {p : Nat} (hf : (Cov.met (letters A) (A 0).length p).length = (A 0).length) {i x : Nat} (hx : x < (A 0).length) : letters (canA A p) i x = Cov.num (letters A) (A 0).length p i x := by
  unfold letters canA
  rw [List.getD, numA_at _ _ _ _ (by rw [show (Cov.met (letters A) (A 0).length p).length = (A 0).length from hf]; exact hx)]
  exact Int.toNat_natCast _
theorem can_shaped {A : Nat → List Int} (hs : Shaped A) {p : Nat} (hp : p < (A 0).length) (hf : (Cov.met (letters A) (A 0).length p).length = (A 0).length) : Shaped (canA A p) := by
  refine ⟨⟨by rw [can_len hf]; exact hs.1.1, by rw [can_len hf]; exact hs.1.2.1, by rw [can_len hf, can_len hf], by rw [can_len hf, can_len hf]⟩, fun i hi k hk => ?_⟩
  rw [can_len hf] at hk
  have h1 := Cov.num_lt hs.into hp hf i k hi hk
  have h2 : (canA A p i).getD k 0 = ((Cov.num (letters A) (A 0).length p i k : Nat) : Int) := by
    unfold canA
    rw [List.getD, numA_at _ _ _ _ (by rw [hf]; exact hk)]; rfl
  rw [h2, can_len hf]
  omega
/-- The numbered action is a renumbering. -/
theorem can_iso {A : Nat → List Int} (hs : Shaped A) {p : Nat} (hp : p < (A 0).length) (hf : (Cov.met (letters A) (A 0).length p).length = (A 0).length) : Iso (letters A) (letters (canA A p)) (A 0).length (Cov.place (letters A) (A 0).length p) := by
  have h := Cov.iso_num hs.into hp hf
  exact ⟨h.lt, h.inj, fun i x hi hx => by rw [can_letters hf (h.lt x hx)]; exact h.com i x hi hx⟩
theorem can_facts {a b c : Int} {A : Nat → List Int} (h : actErr a b c A = 0) {p : Nat} (hp : p < (A 0).length) : Shaped (canA A p) ∧ (canA A p 0).length = (A 0).length ∧ Cov.HoldsR (ordN a b c) (letters (canA A p)) (A 0).length ∧ (Cov.met (letters (canA A p)) (A 0).length 0).length = (A 0).length := by
  obtain ⟨_, hs, hH, hF⟩ := actErr_zero h
  have hf := full_at h hp
  have hi := can_iso hs hp hf
  have h0 := hi.full hs.into hp hf
  rw [Cov.place_self hs.into hp] at h0
  exact ⟨can_shaped hs hp hf, can_len hf 0, hi.holds hs.into ((Cov.holds_same hs.into).1 hH), h0⟩

set_option maxRecDepth 100000 in
set_option maxHeartbeats 4000000 in
theorem cover_Tiles1 (a b c : Int) (V : Nat → Value) (A : Nat → List Int) (p : Int) (xb eb ob ab pb N : Nat) (w : World) (hN : N ≤ w.heap.size) (hA : AR N w V A) (hlen : ∀ i, i < 3 → (A i).length ≤ 1000000000)
    (hx : w.heap[xb]? = some (.cells #[.slice none 0 0, .slice none 0 0] 129)) (he : w.heap[eb]? = some (.cells #[.int .i64 0] 39)) (ho : w.heap[ob]? = some (.cells #[.int .i64 a, .int .i64 b, .int .i64 c] 23))
    (ha : w.heap[ab]? = some (.cells #[V 0, V 1, V 2] 27)) (hp : w.heap[pb]? = some (.cells #[.int .i64 p] 3)) (hxe : xb ≠ eb) :
    Calls Tryz.prog 72 #[.pointer (some ⟨xb, 0, none⟩), .pointer (some ⟨eb, 0, none⟩), .pointer (some ⟨ob, 0, none⟩), .pointer (some ⟨ab, 0, none⟩), .pointer (some ⟨pb, 0, none⟩)] w fun e w' => e = .returned (.tuple #[]) ∧ Only (fun k => k = xb ∨ k = eb ∨ w.heap.size ≤ k) w w' ∧
      w'.heap[eb]? = some (.cells #[.int .i64 (atErr a b c A p)] 39) ∧ ∃ tv pv, w'.heap[xb]? = some (.cells #[tv, pv] 129) ∧ (atErr a b c A p ≠ 0 → tv = .slice none 0 0 ∧ pv = .slice none 0 0) ∧
        (atErr a b c A p = 0 → GR w' 1 tv (A 0).length (wordCells (letters (canA A p.toNat)) (A 0).length (A 0).length) ∧ GR w' 4 pv (pairsT (ordN a b c) (letters (canA A p.toNat)) (A 0).length (A 0).length).length (pairCells (pairsT (ordN a b c) (letters (canA A p.toNat)) (A 0).length (A 0).length)) ∧ (∀ b, tv.ownBlock = some b → w.heap.size ≤ b) ∧ ∀ b, pv.ownBlock = some b → w.heap.size ≤ b) := by
  have hAW : ∀ W, Below w.heap.size w W → AR W.heap.size W V A := fun W hB i hi => ((hA i hi).below (hB.mono hN)).more (Nat.le_trans hN hB.size)
  have HAT := Lib.hid (fun W hA => cover_at a b c V A p W hA hlen)
  have HX := Lib.hid hx; have HE := Lib.hid he; have HO := Lib.hid ho; have HA := Lib.hid ha; have HP := Lib.hid hp
  have HAW := Lib.hid hAW
  have lx : xb < w.heap.size := (Array.getElem?_eq_some_iff.1 hx).1
  have le : eb < w.heap.size := (Array.getElem?_eq_some_iff.1 he).1
  have lo : ob < w.heap.size := (Array.getElem?_eq_some_iff.1 ho).1
  have la : ab < w.heap.size := (Array.getElem?_eq_some_iff.1 ha).1
  have lp : pb < w.heap.size := (Array.getElem?_eq_some_iff.1 hp).1
  have k0 := cell_of_heap ho 0
  have k1 := cell_of_heap ho 1
  have k2 := cell_of_heap ho 2
  have a0 := box_at ha (i := 0) (by omega)
  have a1 := box_at ha (i := 1) (by omega)
  have a2 := box_at ha (i := 2) (by omega)
  have p0 := cell_of_heap hp 0
  simp only [List.getElem?_toArray, List.getElem?_cons_zero, List.getElem?_cons_succ] at k0 k1 k2 p0
  have HXE := Lib.hid hxe
  clear hA hlen hx he ho ha hp hAW hxe
  unfold ordersV actV at *
  go_enter_defers Tryz.func72, Tryz.ntmps72
  go_wp2_with fail
  refine (HAT.out _ (HAW.out _ (Below.refl _ _))).mono ?_
  rintro e w1 ⟨hcase, hB⟩
  have HB1 := Lib.hid hB
  clear hB k0 k1 k2 a0 a1 a2 p0
  have hx1 := (HB1.out.block xb lx).trans HX.out
  have he1 := (HB1.out.block eb le).trans HE.out
  rcases hcase with ⟨hz, rfl⟩ | ⟨hz, rfl⟩
  · obtain ⟨hact, hp0, hpn⟩ := atErr_zero hz
    obtain ⟨q, rfl⟩ : ∃ q : Nat, p = q := ⟨p.toNat, by omega⟩
    have hqn : q < (A 0).length := by omega
    obtain ⟨hor, hsh, hwh⟩ := actErr_zero hact
    have ho1 := (HB1.out.block ob lo).trans HO.out
    have ha1 := (HB1.out.block ab la).trans HA.out
    have hp1 := (HB1.out.block pb lp).trans HP.out
    have g0 := fun (y : Later w1) => ((bcell y.h).1 ob 0 (Nat.lt_of_lt_of_le lo HB1.out.size)).trans (cell_of_heap ho1 0)
    have g1 := fun (y : Later w1) => ((bcell y.h).1 ob 1 (Nat.lt_of_lt_of_le lo HB1.out.size)).trans (cell_of_heap ho1 1)
    have g2 := fun (y : Later w1) => ((bcell y.h).1 ob 2 (Nat.lt_of_lt_of_le lo HB1.out.size)).trans (cell_of_heap ho1 2)
    have b0 := fun (y : Later w1) => ((bcell y.h).1 ab 0 (Nat.lt_of_lt_of_le la HB1.out.size)).trans (box_at ha1 (i := 0) (by omega))
    have b1 := fun (y : Later w1) => ((bcell y.h).1 ab 1 (Nat.lt_of_lt_of_le la HB1.out.size)).trans (box_at ha1 (i := 1) (by omega))
    have b2 := fun (y : Later w1) => ((bcell y.h).1 ab 2 (Nat.lt_of_lt_of_le la HB1.out.size)).trans (box_at ha1 (i := 2) (by omega))
    have b3 := fun (y : Later w1) => ((bcell y.h).1 pb 0 (Nat.lt_of_lt_of_le lp HB1.out.size)).trans (cell_of_heap hp1 0)
    simp only [List.getElem?_toArray, List.getElem?_cons_zero, List.getElem?_cons_succ] at g0 g1 g2 b3
    have HNUM := Lib.hid (fun W hAW => cover_numbered V A W hAW hsh q hqn)
    have HACT := Lib.hid (fun pv lv W hAW => cover_action V pv lv A W hAW hsh q hqn)
    obtain ⟨cs1, cs2, cs3, cs4⟩ := can_facts hact hqn
    have HCUT := Lib.hid (fun V' W hAW => cover_cut (ordN a b c) (Hy.fine_of hor) (by have := ordN_le hor; exact ⟨this.1, this.2.1, this.2.2⟩) V' (canA A q) W hAW cs1 (by rw [cs2]; exact cs3) (by rw [cs2]; exact cs4))
    rw [cs2, ← ordN_v hor] at HCUT
    have HZ := Lib.hid hz
    clear hz hact hp0 hpn hor hsh hwh ho1 ha1 hp1 cs1 cs2 cs3 cs4
    unfold ordersV actV at *
    go_upto_region 2 with fail
    refine wp_region_segs [([0, 1, 2], [3, 4, 5])] 6 (fun w' => ∃ y : Later w1, w' = y.W) ⟨⟨w1.drew, (Below.refl _ _).drew⟩, rfl⟩ (by kernel_rfl) (by kernel_rfl) ?_
    simp only [List.map_cons, List.map_nil, pickOps, List.flatMap_cons, List.flatMap_nil, List.cons_append, List.nil_append, List.take_succ_cons, List.take_zero, List.drop_succ_cons, List.drop_zero, wpSegs]
    repeat (go_big_quiet_step (fail))
    refine wpQuiet_nil ?_
    clear g0 g1 g2 b0 b1 b2 b3
    refine wpG_step ?_
    intro K2 hK2
    go_wp2_with fail
    refine (HNUM.out _ (HAW.out _ (HB1.out.trans ((Below.refl _ _).drew.mono HB1.out.size)))).mono ?_
    rintro e w4 ⟨pv, lv, rfl, hpv, hlv, hB⟩
    have HB4 := Lib.hid (show Below w1.heap.size w1 w4 from below_undrew hB)
    have HPV := Lib.hid hpv; have HLV := Lib.hid hlv
    clear hB hpv hlv
    unfold numV at *
    go_wp2_with fail
    refine ⟨⟨⟨w4, HB4.out⟩, rfl⟩, hK2 _ _ ?_⟩
    clear hK2
    refine wpG_step ?_
    intro K3 hK3
    go_wp2_with fail
    refine (HACT.out pv lv w4 (HAW.out _ (HB1.out.trans (HB4.out.mono HB1.out.size))) HPV.out HLV.out).mono ?_
    rintro e w5 ⟨V', rfl, hA5, hB, -⟩
    have HB5 := Lib.hid (HB4.out.trans (hB.mono HB4.out.size))
    have HA5 := Lib.hid hA5
    clear hB hA5
    go_wp2_with fail
    refine ⟨⟨⟨w5, HB5.out⟩, rfl⟩, hK3 _ _ ?_⟩
    clear hK3
    refine wpG_step ?_
    intro K4 hK4
    go_wp2_with fail
    refine (HCUT.out V' w5 HA5.out).mono ?_
    rintro e w6 ⟨tv, pv', rfl, hgt, hgp, hB, hot, hop⟩
    obtain ⟨at_, ct, hte, -⟩ := hgt.open
    obtain ⟨ap, cp, hpe, -⟩ := hgp.open
    subst hte hpe
    obtain ⟨cnt, hcnt⟩ : ∃ cnt, cnt = (pairsT (ordN a b c) (letters (canA A q)) (A 0).length (A 0).length).length := ⟨_, rfl⟩
    obtain ⟨n, hn⟩ : ∃ n, n = (A 0).length := ⟨_, rfl⟩
    have HB6 := Lib.hid (HB5.out.trans (hB.mono HB5.out.size))
    have HGT := Lib.hid hgt; have HGP := Lib.hid hgp; have HOT := Lib.hid hot; have HOP := Lib.hid hop
    rw [← hcnt] at HGP HOP ⊢
    rw [← hn] at HGT HGP HOT ⊢
    have HCN := Lib.hid (And.intro hcnt hn)
    clear hB hgt hgp hot hop hcnt hn
    go_wp2_with fail
    refine ⟨⟨⟨w6, HB6.out⟩, rfl⟩, hK4 _ _ ?_⟩
    clear hK4
    refine wpG_nil ?_
    have hx6 := (HB6.out.block xb (Nat.lt_of_lt_of_le lx HB1.out.size)).trans hx1
    have he6 := (HB6.out.block eb (Nat.lt_of_lt_of_le le HB1.out.size)).trans he1
    have c0 := cell_of_heap hx6 0
    have c1 := cell_of_heap hx6 1
    have f0 := free_of_heap hx6 0
    have f1 := free_of_heap hx6 1
    simp only [List.getElem?_toArray, List.getElem?_cons_zero, List.getElem?_cons_succ] at c0 c1 f0 f1
    have HX6 := Lib.hid hx6; have HE6 := Lib.hid he6
    clear hx6 he6 hx1 he1
    go_wp2_with fail
    clear c0 c1 f0 f1
    have hone : Only (fun k => k = xb) w6 ((w6.setCell ⟨xb, 0, none⟩ (.slice at_ n ct)).setCell ⟨xb, 1, none⟩ (.slice ap cnt cp)) := (only_one w6 xb 0 _).trans (only_one _ xb 1 _)
    have hx7 : ((w6.setCell ⟨xb, 0, none⟩ (.slice at_ n ct)).setCell ⟨xb, 1, none⟩ (.slice ap cnt cp)).heap[xb]? = some (.cells #[.slice at_ n ct, .slice ap cnt cp] 129) := by
      have h0 := heap_setCell_same w6 xb 0 _ _ (.slice at_ n ct) HX6.out
      have h1 := heap_setCell_same _ xb 1 _ _ (.slice ap cnt cp) h0
      simpa using h1
    generalize (w6.setCell ⟨xb, 0, none⟩ (.slice at_ n ct)).setCell ⟨xb, 1, none⟩ (.slice ap cnt cp) = w7 at hone hx7 ⊢
    have he7 := (hone.block eb (fun e => HXE.out e.symm)).trans HE6.out
    refine leaves_cons (f := 73) (args := #[.pointer (some ⟨xb, 0, none⟩), .pointer (some ⟨eb, 0, none⟩)]) (by simp) (by simp [go_sem]) ?_
    refine (caught_paired_idle ⟨xb, 0, none⟩ ⟨eb, 0, none⟩ _).mono ?_
    rintro e u' w'' ⟨rfl, rfl, rfl⟩
    simp only [Leaves, settle]
    have hw1 := HB1.out.size
    have hw6 := HB6.out.size
    have hall : Only (fun k => k = xb ∨ k = eb ∨ w.heap.size ≤ k) w w'' := ((Only.of_below HB1.out (fun k hk => .inr (.inr hk))).trans (Only.of_below HB6.out (fun k hk => .inr (.inr (by omega))))).trans (hone.mono (fun k hk => .inl hk))
    refine ⟨.tuple #[], by simp [results, Tryz.results72, go_sem], rfl, hall, by rw [HZ.out]; exact he7, _, _, hx7, fun h => absurd HZ.out h, fun _ => ?_⟩
    rw [show ((q : Nat) : Int).toNat = q from Int.toNat_natCast q, ← HCN.out.1, ← HCN.out.2]
    have h5 := HB5.out.size
    refine ⟨HGT.out.only hone (fun b hb e => ?_), HGP.out.only hone (fun b hb e => ?_), fun b hb => ?_, fun b hb => ?_⟩
    · have := HOT.out b hb
      omega
    · have := HOP.out b hb
      omega
    · have := HOT.out b hb
      omega
    · have := HOP.out b hb
      omega
  · have HZ := Lib.hid hz
    have HX1 := Lib.hid hx1; have HE1 := Lib.hid he1
    obtain ⟨er, her⟩ : ∃ er, er = atErr a b c A p := ⟨_, rfl⟩
    rw [← her]
    have HER := Lib.hid her
    clear hz hx1 he1 her
    go_wp2_with fail
    refine leaves_cons (f := 73) (args := #[.pointer (some ⟨xb, 0, none⟩), .pointer (some ⟨eb, 0, none⟩)]) (by simp) (by simp [go_sem]) ?_
    refine (caught_paired_panic xb eb _ _ 0 er w1 HXE.out HX1.out HE1.out).mono ?_
    rintro e u' w'' ⟨rfl, rfl, h0, h1, hO⟩
    simp only [Leaves, settle]
    have hw1 := HB1.out.size
    refine ⟨.tuple #[], by simp [results, Tryz.results72, go_sem], rfl, (Only.of_below HB1.out (fun k hk => .inr (.inr hk))).trans (hO.mono (fun k hk => by omega)), by rw [← HER.out]; exact h1, _, _, h0, fun _ => ⟨rfl, rfl⟩, fun h => absurd h HZ.out⟩

theorem alloc5 (w : World) (o0 o1 o2 o3 o4 : Obj) : (((((w.alloc o0).alloc o1).alloc o2).alloc o3).alloc o4).heap.size = w.heap.size + 5 ∧ Below w.heap.size w (((((w.alloc o0).alloc o1).alloc o2).alloc o3).alloc o4) ∧
    (((((w.alloc o0).alloc o1).alloc o2).alloc o3).alloc o4).heap[w.heap.size]? = some o0 ∧ (((((w.alloc o0).alloc o1).alloc o2).alloc o3).alloc o4).heap[w.heap.size + 1]? = some o1 ∧
    (((((w.alloc o0).alloc o1).alloc o2).alloc o3).alloc o4).heap[w.heap.size + 2]? = some o2 ∧ (((((w.alloc o0).alloc o1).alloc o2).alloc o3).alloc o4).heap[w.heap.size + 3]? = some o3 ∧
    (((((w.alloc o0).alloc o1).alloc o2).alloc o3).alloc o4).heap[w.heap.size + 4]? = some o4 := by
  obtain ⟨h0, h1, h2, h3, h4, h5⟩ := alloc4 w o0 o1 o2 o3
  have hn := alloc_heap_new ((((w.alloc o0).alloc o1).alloc o2).alloc o3) o4
  rw [h0] at hn
  refine ⟨by rw [World.size_alloc, h0], h1.alloc (by omega) _, ?_, ?_, ?_, ?_, hn⟩
  · exact (Below.heap_alloc _ _ _ (by omega)).trans h2
  · exact (Below.heap_alloc _ _ _ (by omega)).trans h3
  · exact (Below.heap_alloc _ _ _ (by omega)).trans h4
  · exact (Below.heap_alloc _ _ _ (by omega)).trans h5

set_option maxRecDepth 100000 in
set_option maxHeartbeats 4000000 in
theorem cover_Tiles (a b c : Int) (V : Nat → Value) (A : Nat → List Int) (p : Int) (w : World) (hA : AR w.heap.size w V A) (hlen : ∀ i, i < 3 → (A i).length ≤ 1000000000) :
    Calls Tryz.prog 21 #[ordersV a b c, actV V, .int .i64 p] w fun e w' => ∃ tv pv, e = .returned (.tuple #[tv, pv, .int .i64 (atErr a b c A p)]) ∧ Below w.heap.size w w' ∧ (atErr a b c A p ≠ 0 → tv = .slice none 0 0 ∧ pv = .slice none 0 0) ∧
        (atErr a b c A p = 0 → GR w' 1 tv (A 0).length (wordCells (letters (canA A p.toNat)) (A 0).length (A 0).length) ∧ GR w' 4 pv (pairsT (ordN a b c) (letters (canA A p.toNat)) (A 0).length (A 0).length).length (pairCells (pairsT (ordN a b c) (letters (canA A p.toNat)) (A 0).length (A 0).length))) := by
  obtain ⟨hs1, hB1, q0, q1, q2, q3, q4⟩ := alloc5 w (.cells #[.int .i64 a, .int .i64 b, .int .i64 c] 23) (.cells #[V 0, V 1, V 2] 27) (.cells #[.int .i64 p] 3) (.cells #[.int .i64 0] 39) (.cells #[.slice none 0 0, .slice none 0 0] 129)
  obtain ⟨W1, hW1⟩ : ∃ W1, W1 = ((((w.alloc (.cells #[.int .i64 a, .int .i64 b, .int .i64 c] 23)).alloc (.cells #[V 0, V 1, V 2] 27)).alloc (.cells #[.int .i64 p] 3)).alloc (.cells #[.int .i64 0] 39)).alloc (.cells #[.slice none 0 0, .slice none 0 0] 129) := ⟨_, rfl⟩
  rw [← hW1] at hs1 hB1 q0 q1 q2 q3 q4
  have HT1 := Lib.hid (cover_Tiles1 a b c V A p (w.heap.size + 4) (w.heap.size + 3) w.heap.size (w.heap.size + 1) (w.heap.size + 2) w.heap.size W1 hB1.size (fun i hi => (hA i hi).below hB1) hlen q4 q3 q0 q1 q2 (by omega))
  have HS1 := Lib.hid hs1; have HB1 := Lib.hid hB1
  obtain ⟨er, her⟩ : ∃ er, er = atErr a b c A p := ⟨_, rfl⟩
  rw [← her] at HT1 ⊢
  clear hA hlen q0 q1 q2 q3 q4 hs1 hB1 her
  unfold ordersV actV
  go_enter Tryz.func21, Tryz.ntmps21
  go_upto_region 2 with fail
  rw [← hW1]
  clear hW1
  go_wp2_with fail
  refine HT1.out.mono ?_
  rintro e w2 ⟨rfl, hO, he, tv, pv, hx, hne, hok⟩
  have hB2 : Below w.heap.size w w2 := HB1.out.trans (hO.below (fun k hk => by have := HS1.out; omega))
  have HB2 := Lib.hid hB2; have HNE := Lib.hid hne; have HOK := Lib.hid hok
  have HEB := Lib.hid he; have HXB := Lib.hid hx
  have htv : ∃ a n c, tv = .slice a n c := by
    by_cases h : er = 0
    · obtain ⟨a, c, h1, _⟩ := (hok h).1.open
      exact ⟨_, _, _, h1⟩
    · exact ⟨_, _, _, (hne h).1⟩
  have hpv : ∃ a n c, pv = .slice a n c := by
    by_cases h : er = 0
    · obtain ⟨a, c, h1, _⟩ := (hok h).2.1.open
      exact ⟨_, _, _, h1⟩
    · exact ⟨_, _, _, (hne h).2⟩
  obtain ⟨t1, t2, t3, rfl⟩ := htv
  obtain ⟨u1, u2, u3, rfl⟩ := hpv
  have lx : w.heap.size + 4 < w2.heap.size := (Array.getElem?_eq_some_iff.1 hx).1
  have le : w.heap.size + 3 < w2.heap.size := (Array.getElem?_eq_some_iff.1 he).1
  have g0 := fun (y : Later w2) => ((bcell y.h).1 (w.heap.size + 4) 0 lx).trans (cell_of_heap hx 0)
  have g1 := fun (y : Later w2) => ((bcell y.h).1 (w.heap.size + 4) 1 lx).trans (cell_of_heap hx 1)
  have g2 := fun (y : Later w2) => ((bcell y.h).1 (w.heap.size + 3) 0 le).trans (cell_of_heap he 0)
  simp only [List.getElem?_toArray, List.getElem?_cons_zero, List.getElem?_cons_succ] at g0 g1 g2
  clear hO he hx hne hok hB2
  go_upto_region 3 with fail
  refine wp_region_segs [([0, 1, 2, 3, 4], []), ([5, 6], [])] 7 (fun w' => ∃ y : Later w2, w' = y.W) ⟨⟨w2.drew, (Below.refl _ _).drew⟩, rfl⟩ (by kernel_rfl) (by kernel_rfl) ?_
  simp only [List.map_cons, List.map_nil, pickOps, List.flatMap_cons, List.flatMap_nil, List.cons_append, List.nil_append, List.take_succ_cons, List.take_zero, List.drop_succ_cons, List.drop_zero, wpSegs]
  repeat (go_big_quiet_step (fail))
  refine wpQuiet_nil ?_
  refine wpG_nil ?_
  repeat (go_big_quiet_step (fail))
  refine wpQuiet_nil ?_
  refine wpG_nil ?_
  clear g0 g1 g2
  have c0 := cell_of_heap HEB.out 0
  have f0 := free_of_heap HEB.out 0
  simp only [List.getElem?_toArray, List.getElem?_cons_zero, List.getElem?_cons_succ] at c0 f0
  go_wp2_with fail
  clear c0 f0
  have hone : Only (fun k => k = w.heap.size + 3) w2 (w2.setCell ⟨w.heap.size + 3, 0, none⟩ (.int .i64 er)).drew := (only_one w2 _ 0 _).drew
  have he3 : (w2.setCell ⟨w.heap.size + 3, 0, none⟩ (.int .i64 er)).drew.heap[w.heap.size + 3]? = some (.cells #[.int .i64 er] 39) := by
    have h := heap_setCell_same w2 (w.heap.size + 3) 0 _ _ (.int .i64 er) HEB.out
    simp at h
    exact h
  show bodyPost _ _ _ _ _ (w2.setCell ⟨w.heap.size + 3, 0, none⟩ (.int .i64 er)).drew
  generalize (w2.setCell ⟨w.heap.size + 3, 0, none⟩ (.int .i64 er)).drew = w3 at hone he3 ⊢
  have c3 := cell_of_heap he3 0
  simp at c3
  refine bodyPost_ret (v := .tuple #[.slice t1 t2 t3, .slice u1 u2 u3, .int .i64 er]) (by simp [results, Tryz.results21, go_sem, c3]) rfl ?_
  refine ⟨_, _, rfl, HB2.out.trans (hone.below (fun k hk => by omega)), HNE.out, fun h => ?_⟩
  obtain ⟨h1, h2, h3, h4⟩ := HOK.out h
  have hs1 := HS1.out
  exact ⟨h1.of_heap (fun b hb => hone.block b (by have := h3 b hb; omega)) hone.size, h2.of_heap (fun b hb => hone.block b (by have := h4 b hb; omega)) hone.size⟩
end Go.Proofs.YtfdklmpkienfhaaGreat
