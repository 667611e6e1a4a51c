/- walk.reader.read as a whole. -/
import Derived.Test.YtbfnnlcckpabnaaGreatLd7
import Derived.Defers
import Derived.Recover
import Derived.Laws.Pointers
namespace Go.Proofs.YtbfnnlcckpabnaaGreat
set_option linter.unusedSimpArgs false
set_option linter.unusedVariables false
open Go.RowKit
set_option maxRecDepth 100000 in
set_option maxHeartbeats 4000000 in
theorem walk_read_rest {N rb mb wb tb lb : Nat} {o : Hy.Ord} {w wc : World} {l : List UInt8} (F : Hy.Fine o) (ho : Small o) (h : TInv N rb mb wb tb o w wc l [] []) (hl : wc.heap[lb]? = some (.cells #[.string ⟨#[]⟩, .int .i64 0] 64 (0, 0)))
    (hl0 : w.heap.size ≤ lb) (hl1 : lb ≠ mb) (hl2 : lb ≠ wb) (hl3 : lb ≠ tb) {P : Option (WallList × ThingList)} (hP : P = parseRest o l) (s1 s2 s4 s6 s7 s8 s9 s10 s11 s12 s13 s14 s15 s16 s17 s18 s19 s20 s21 s22 s23 s24 s25 s26 s27 s28 s29 s30 s31 s32 s33 s34 s35 s36 s37 s38 s39 s40 s41 s42 s43 s44 s45 s46 s47 s48 s49 s50 s51 s52 s53 s54 s55 s56 s57 s58 s59 s60 s61 s62 s63 s64 s65 s66 s67 s68 s69 s70 s71 s72 s73 s74 s75 s76 s77 s78 s79 s80 s81 s82 s83 s84 s85 s86 s87 s88 s89 s90 s91 s92 s93 s94 s95 s96 s97 s98 s99 s100 s101 s102 s103 s104 s105 s106 s107 s108 s109 s110 s111 s112 s113 s114 s115 s116 s117 s118 s119 s120 s121 s122 s123 s124 s125 s126 s127 s128 s129 s130 s131 s132 s133 s134 s135 s136 s137 s138 s139 : Value) :
    Code.wp Tryz.prog (behind 5 (Tryz.f44.body.getD .skip)) (bodyPost Tryz.prog Tryz.f44 (ReadPost rb o P w)) ⟨#[.pointer (some ⟨rb, 0, none⟩), s1, s2, mptr mb, s4, .pointer (some ⟨lb, 0, none⟩), s6, s7, s8, s9, s10, s11, s12, s13, s14, s15, s16, s17, s18, s19, s20, s21, s22, s23, s24, s25, s26, s27, s28, s29, s30, s31, s32, s33, s34, s35, s36, s37, s38, s39, s40, s41, s42, s43, s44, s45, s46, s47, s48, s49, s50, s51, s52, s53, s54, s55, s56, s57, s58, s59, s60, s61, s62, s63, s64, s65, s66, s67, s68, s69, s70, s71, s72, s73, s74, s75, s76, s77, s78, s79, s80, s81, s82, s83, s84, s85, s86, s87, s88, s89, s90, s91, s92, s93, s94, s95, s96, s97, s98, s99, s100, s101, s102, s103, s104, s105, s106, s107, s108, s109, s110, s111, s112, s113, s114, s115, s116, s117, s118, s119, s120, s121, s122, s123, s124, s125, s126, s127, s128, s129, s130, s131, s132, s133, s134, s135, s136, s137, s138, s139], []⟩ wc :=
  wp_seq (x := front (behind 5 (Tryz.f44.body.getD .skip))) (y := behind 6 (Tryz.f44.body.getD .skip))
    (walk_walls_loop F ho h hl hl0 hl1 hl2 hl3 hP (fun T lk wx hT hPT => walk_read_things F ho hT hPT) _ _ _ _ _ _ _ _ _ _ _ _ _ _ _ _ _ _ _ _ _ _ _ _ _ _ _ _ _ _ _ _ _ _ _ _ _ _ _ _ _ _ _ _ _ _ _ _ _ _ _ _ _ _ _ _ _ _ _ _ _ _ _ _ _ _ _ _ _ _ _ _ _ _ _ _ _ _ _ _ _ _ _ _ _ _ _ _ _ _ _ _ _ _ _ _ _ _ _ _ _ _ _ _ _ _ _ _ _ _ _ _ _ _ _ _ _ _ _ _ _ _ _ _ _ _ _ _ _ _ _ _ _ _ _ _ _)

theorem small_of {a b c : Int} (h : Hy.ordErr a b c = 0) : Small (Hy.toOrd a b c) := by
  obtain ⟨h1, h2, h3⟩ := Hy.ordErr_zero h
  exact ⟨by show a.toNat ≤ 12; omega, by show b.toNat ≤ 12; omega, by show c.toNat ≤ 12; omega⟩

theorem Rd.setM {N : Nat} {w : World} {rb : Nat} {mp mp' : Value} {l : List UInt8} (h : Rd N w rb mp l) : Rd N (w.setCell ⟨rb, 1, none⟩ mp') rb mp' l := by
  obtain ⟨v, h1, h2, h3⟩ := h
  refine ⟨v, heap_setCell_same _ _ _ _ _ _ h1, h2, h3.of_heap fun g hg => ?_⟩
  exact (Only.setCell (B := fun k => k = rb) (Only.refl _ w) (p := ⟨rb, 1, none⟩) rfl mp').block g (by omega)

/-- An image was read whole. -/
def AllPost (rb : Nat) (l : List UInt8) (w : World) (e : Ending) (w' : World) : Prop :=
  match parse l with
  | some (o, WT) => ReadPost rb o (some WT) w e w' ∧ Hy.ordErr o.m01 o.m12 o.m02 = 0
  | none => BadPost rb w e w'

theorem AllPost.bad {rb : Nat} {l : List UInt8} {w w' : World} (h : parse l = none) (ho : Only (fun k => k = rb ∨ w.heap.size ≤ k) w w') : AllPost rb l w (.panicked noImg) w' := by
  unfold AllPost
  rw [h]
  exact ⟨rfl, ho⟩

theorem AllPost.of {rb : Nat} {o : Hy.Ord} {l l' : List UInt8} {w w' : World} {e : Ending} (h : parse l' = (parseRest o l).map (fun p => (o, p))) (he : Hy.ordErr o.m01 o.m12 o.m02 = 0) (h2 : ReadPost rb o (parseRest o l) w e w') : AllPost rb l' w e w' := by
  unfold AllPost
  rw [h]
  cases hp : parseRest o l with
  | none => rw [hp] at h2; exact h2
  | some q => rw [hp] at h2; exact ⟨h2, he⟩

theorem ocell {rb : Nat} {W w1 : World} (h : Only (fun k => k = rb ∨ W.heap.size ≤ k) W w1) : (∀ b o, b ≠ rb → b < W.heap.size → w1.cell? ⟨b, o, none⟩ = W.cell? ⟨b, o, none⟩) ∧ (∀ b o, b ≠ rb → b < W.heap.size → w1.frozen? ⟨b, o, none⟩ = W.frozen? ⟨b, o, none⟩) :=
  ⟨fun b o h1 h2 => World.cell?_of_block (a := ⟨b, o, none⟩) (h.block b (by omega)), fun b o h1 h2 => World.frozen?_of_block (a := ⟨b, o, none⟩) (h.block b (by omega))⟩

/-- A byte is read in a world that has grown. -/
theorem byte1_from {N : Nat} {w : World} {rb : Nat} {mp : Value} {c : UInt8} {l : List UInt8} (h : Rd N w rb mp (c :: l)) (W : World) (hB : Below w.heap.size w W) :
    Calls Tryz.prog 69 #[.pointer (some ⟨rb, 0, none⟩)] W (RdPost N rb mp W (.int .i64 c.toNat) l) := walk_byte1 (h.below hB)
theorem byte1_bad_from {N : Nat} {w : World} {rb : Nat} {mp : Value} (h : Rd N w rb mp []) (W : World) (hB : Below w.heap.size w W) :
    Calls Tryz.prog 69 #[.pointer (some ⟨rb, 0, none⟩)] W (fun e w' => e = .panicked noImg ∧ Only (fun k => k = rb ∨ w.heap.size ≤ k) w w') :=
  (walk_byte1_bad (h.below hB)).mono fun e w' hp => ⟨hp.1, (Only.of_below (B := fun k => k = rb ∨ w.heap.size ≤ k) hB (fun k hk => .inr hk)).step hp.2⟩
theorem byte1_from' {N : Nat} {w : World} {rb : Nat} {mp : Value} {c : UInt8} {l : List UInt8} (h : Rd N w rb mp (c :: l)) (W : World) (hB : Below w.heap.size w W) :
    Calls Tryz.prog 69 #[.pointer (some ⟨rb, 0, none⟩)] W (RdPost N rb mp w (.int .i64 c.toNat) l) :=
  (walk_byte1 (h.below hB)).mono fun e w' hp => ⟨hp.1, hp.2.1, (Only.of_below (B := fun k => k = rb ∨ w.heap.size ≤ k) hB (fun k hk => .inr hk)).step hp.2.2⟩

theorem three_stores {w : World} {b : Nat} {x y z u v t : Value} {ty : TypeId} (h : w.heap[b]? = some (.cells #[x, y, z] ty (0, 0))) : (((w.setCell ⟨b, 0, none⟩ u).setCell ⟨b, 1, none⟩ v).setCell ⟨b, 2, none⟩ t).heap[b]? = some (.cells #[u, v, t] ty (0, 0)) :=
  heap_setCell_same _ _ _ _ _ _ (heap_setCell_same _ _ _ _ _ _ (heap_setCell_same _ _ _ _ _ _ h))

theorem orders_stored {N rb B : Nat} {w w3 : World} {mp : Value} {l : List UInt8} (hR : Rd N w3 rb mp l) (hO : Only (fun k => k = rb ∨ w.heap.size ≤ k) w w3) (hB : w.heap.size ≤ B) (hrb : rb < w.heap.size) {x y z : Value} {ty : TypeId} (hh : w3.heap[B]? = some (.cells #[x, y, z] ty (0, 0))) (u v t : Value) :
    (((w3.setCell ⟨B, 0, none⟩ u).setCell ⟨B, 1, none⟩ v).setCell ⟨B, 2, none⟩ t).heap[B]? = some (.cells #[u, v, t] ty (0, 0)) ∧ w.heap.size ≤ B ∧ Rd N (((w3.setCell ⟨B, 0, none⟩ u).setCell ⟨B, 1, none⟩ v).setCell ⟨B, 2, none⟩ t) rb mp l ∧
      Only (fun k => k = rb ∨ w.heap.size ≤ k) w (((w3.setCell ⟨B, 0, none⟩ u).setCell ⟨B, 1, none⟩ v).setCell ⟨B, 2, none⟩ t) := by
  have ho : Only (fun k => k = B) w3 (((w3.setCell ⟨B, 0, none⟩ u).setCell ⟨B, 1, none⟩ v).setCell ⟨B, 2, none⟩ t) :=
    Only.setCell (B := fun k => k = B) (Only.setCell (B := fun k => k = B) (Only.setCell (B := fun k => k = B) (Only.refl _ w3) (p := ⟨B, 0, none⟩) rfl u) (p := ⟨B, 1, none⟩) rfl v) (p := ⟨B, 2, none⟩) rfl t
  have hlt := hR.lt
  exact ⟨three_stores hh, hB, hR.only ho (by omega) (fun k hk => by omega), hO.trans (ho.mono fun k hk => .inr (by rw [hk]; exact hB))⟩

set_option maxRecDepth 100000 in
set_option maxHeartbeats 8000000 in
theorem walk_read_long {N : Nat} {w : World} {rb : Nat} {a b c : UInt8} {l : List UInt8} (h : Rd N w rb (.pointer none) (a :: b :: c :: l)) :
    Calls Tryz.prog 44 #[.pointer (some ⟨rb, 0, none⟩)] w (AllPost rb (a :: b :: c :: l) w) := by
  have hlt := h.lt
  have HA1 := Lib.hid (byte1_from h)
  clear h
  go_enter Tryz.func44, Tryz.ntmps44
  go_wp2_with fail
  have n0 : ¬ w.heap.size = rb := by omega
  go_cut [2] (fun s wx => ∃ ob : Nat, s = .pointer (some ⟨ob, 0, none⟩) ∧ Hid (wx.heap[ob]? = some (.cells #[.int .i64 (a.toNat : Int), .int .i64 (b.toNat : Int), .int .i64 (c.toNat : Int)] 23 (0, 0))) ∧ w.heap.size ≤ ob ∧ Hid (Rd N wx rb (.pointer none) l) ∧ Hid (Only (fun k => k = rb ∨ w.heap.size ≤ k) w wx))
  case first =>
    go_region_held3 (fun w' => True) (first | go_keep | trivial)
      ((first
        | (go_at_call 69; refine (HA1.out _ (by first | exact Below.refl _ _ | exact (Below.refl _ _).drew | exact ((Below.refl _ _).drew).alloc (Nat.le_refl _) _ | exact ((Below.refl _ _).alloc (Nat.le_refl _) _).drew | exact (Below.refl _ _).alloc (Nat.le_refl _) _)).mono ?_; rintro e w1 ⟨rfl, h1, h2⟩; have HO1 := Lib.hid h2; have HP1 := Lib.hid ((Only.of_below (w := w) (B := fun k => k = rb ∨ w.heap.size ≤ k) (by first | exact Below.refl _ _ | exact (Below.refl _ _).drew | exact ((Below.refl _ _).drew).alloc (Nat.le_refl _) _ | exact ((Below.refl _ _).alloc (Nat.le_refl _) _).drew | exact (Below.refl _ _).alloc (Nat.le_refl _) _) (fun k hk => .inr hk)).step h2); obtain ⟨hc1, hf1⟩ := ocell h2; have hz1 := h2.size; (try simp at hz1 hc1 hf1); have n1 : ¬ w1.heap.size = rb := (by omega); (try have a01 : w.heap.size < w1.heap.size := (by omega)); have HA2 := Lib.hid (byte1_from h1); clear HA1; clear h1 h2)
        | (go_at_call 69; refine (HA2.out _ (by first | exact Below.refl _ _ | exact (Below.refl _ _).drew | exact ((Below.refl _ _).drew).alloc (Nat.le_refl _) _ | exact ((Below.refl _ _).alloc (Nat.le_refl _) _).drew | exact (Below.refl _ _).alloc (Nat.le_refl _) _)).mono ?_; rintro e w2 ⟨rfl, h1, h2⟩; have HO2 := Lib.hid h2; have HP2 := Lib.hid ((Only.of_below (w := w1) (B := fun k => k = rb ∨ w1.heap.size ≤ k) (by first | exact Below.refl _ _ | exact (Below.refl _ _).drew | exact ((Below.refl _ _).drew).alloc (Nat.le_refl _) _ | exact ((Below.refl _ _).alloc (Nat.le_refl _) _).drew | exact (Below.refl _ _).alloc (Nat.le_refl _) _) (fun k hk => .inr hk)).step h2); obtain ⟨hc2, hf2⟩ := ocell h2; have hz2 := h2.size; (try simp at hz2 hc2 hf2); have n2 : ¬ w2.heap.size = rb := (by omega); (try have a02 : w.heap.size < w2.heap.size := (by omega)); (try have a12 : w1.heap.size < w2.heap.size := (by omega)); have HA3 := Lib.hid (byte1_from h1); clear HA2; clear h1 h2)
        | (go_at_call 69; refine (HA3.out _ (by first | exact Below.refl _ _ | exact (Below.refl _ _).drew | exact ((Below.refl _ _).drew).alloc (Nat.le_refl _) _ | exact ((Below.refl _ _).alloc (Nat.le_refl _) _).drew | exact (Below.refl _ _).alloc (Nat.le_refl _) _)).mono ?_; rintro e w3 ⟨rfl, h1, h2⟩; have HO3 := Lib.hid h2; have HP3 := Lib.hid ((Only.of_below (w := w2) (B := fun k => k = rb ∨ w2.heap.size ≤ k) (by first | exact Below.refl _ _ | exact (Below.refl _ _).drew | exact ((Below.refl _ _).drew).alloc (Nat.le_refl _) _ | exact ((Below.refl _ _).alloc (Nat.le_refl _) _).drew | exact (Below.refl _ _).alloc (Nat.le_refl _) _) (fun k hk => .inr hk)).step h2); obtain ⟨hc3, hf3⟩ := ocell h2; have hz3 := h2.size; (try simp at hz3 hc3 hf3); (try have a03 : w.heap.size < w3.heap.size := (by omega)); (try have a13 : w1.heap.size < w3.heap.size := (by omega)); (try have a23 : w2.heap.size < w3.heap.size := (by omega)); have HR := Lib.hid h1; clear HA3; clear h1 h2)))
    all_goals go_wp2_with fail
    all_goals go_meet
    case rel =>
      exact ⟨w3.heap.size, rfl, alloc_heap_new w3 _, by omega, HR.out.below ((Below.refl _ _).alloc (Nat.le_refl _) _), ((HP1.out.step HP2.out).step HP3.out).trans (Only.of_below ((Below.refl _ _).alloc (Nat.le_refl _) _) (fun k hk => .inr (by omega)))⟩
    case rel =>
      have hb := (HO3.out.block w2.heap.size (by simp; omega)).trans (alloc_heap_new w2 (.cells #[.int .i64 0, .int .i64 0, .int .i64 0] 23))
      have hst := orders_stored HR.out ((HP1.out.step HP2.out).step HP3.out) (B := w2.heap.size) (by omega) hlt.2 hb (.int .i64 (a.toNat : Int)) (.int .i64 (b.toNat : Int)) (.int .i64 (c.toNat : Int))
      exact ⟨_, rfl, hst.1, hst.2.1, hst.2.2.1, hst.2.2.2⟩
    case rel =>
      have hb := (HO3.out.block w1.heap.size (by omega)).trans ((HO2.out.block w1.heap.size (by simp; omega)).trans (alloc_heap_new w1 (.cells #[.int .i64 0, .int .i64 0, .int .i64 0] 23)))
      have hst := orders_stored HR.out ((HP1.out.step HP2.out).step HP3.out) (B := w1.heap.size) (by omega) hlt.2 hb (.int .i64 (a.toNat : Int)) (.int .i64 (b.toNat : Int)) (.int .i64 (c.toNat : Int))
      exact ⟨_, rfl, hst.1, hst.2.1, hst.2.2.1, hst.2.2.2⟩
    case rel =>
      have hb := (HO3.out.block w.heap.size (by omega)).trans ((HO2.out.block w.heap.size (by omega)).trans ((HO1.out.block w.heap.size (by simp; omega)).trans (alloc_heap_new w (.cells #[.int .i64 0, .int .i64 0, .int .i64 0] 23))))
      have hst := orders_stored HR.out ((HP1.out.step HP2.out).step HP3.out) (B := w.heap.size) (by omega) hlt.2 hb (.int .i64 (a.toNat : Int)) (.int .i64 (b.toNat : Int)) (.int .i64 (c.toNat : Int))
      exact ⟨_, rfl, hst.1, hst.2.1, hst.2.2.1, hst.2.2.2⟩
  case rest =>
    obtain ⟨ob, rfl, HOB, hob, HR, HO⟩ := hcut
    have q0 := cell_of_heap HOB.out 0
    have q1 := cell_of_heap HOB.out 1
    have q2 := cell_of_heap HOB.out 2
    simp at q0 q1 q2
    have HNO := Lib.hid (fun W => walk_need_ok W)
    have HNB := Lib.hid (fun W => walk_need_bad W)
    clear HA1
    by_cases he : Hy.ordErr (a.toNat : Int) (b.toNat : Int) (c.toNat : Int) = 0
    case neg =>
      have hp : parse (a :: b :: c :: l) = none := by simp only [parse]; rw [if_neg he]
      have HP := Lib.hid hp
      have HNEW := Lib.hid (fun W => walk_New_bad (a.toNat : Int) (b.toNat : Int) (c.toNat : Int) W he)
      have g1 : (Hy.ordErr (a.toNat : Int) (b.toNat : Int) (c.toNat : Int) == 0) = false := by rw [beq_eq_false_iff_ne]; exact he
      generalize Hy.ordErr (a.toNat : Int) (b.toNat : Int) (c.toNat : Int) = er at HNEW g1
      clear he hp
      unfold ordersV at HNEW
      go_wp2_with fail
      refine (HNEW.out _).mono ?_
      rintro e w4 ⟨rfl, hB⟩
      have HB := Lib.hid hB; clear hB
      go_wp2_with fail
      refine (HNB.out _).mono ?_
      rintro e w9 ⟨rfl, rfl⟩
      exact ⟨rfl, AllPost.bad HP.out (HO.out.trans (Only.of_below HB.out (fun k hk => .inr (Nat.le_trans HO.out.size hk))))⟩
    case pos =>
      obtain ⟨o, hoo⟩ : ∃ o : Hy.Ord, o = ⟨a.toNat, b.toNat, c.toNat⟩ := ⟨_, rfl⟩
      have ha : a.toNat = o.m01 := by rw [hoo]
      have hb : b.toNat = o.m12 := by rw [hoo]
      have hc : c.toNat = o.m02 := by rw [hoo]
      have hp : parse (a :: b :: c :: l) = (parseRest o l).map (fun p => (o, p)) := by simp only [parse]; rw [if_pos he, hoo]
      have HP := Lib.hid hp
      have F := Hy.fine_of he
      have hS := small_of he
      have hto : Hy.toOrd (a.toNat : Int) (b.toNat : Int) (c.toNat : Int) = o := by rw [hoo]; rfl
      rw [hto] at F hS
      rw [ha, hb, hc] at he
      rw [ha] at q0
      rw [hb] at q1
      rw [hc] at q2
      have HE := Lib.hid he
      have HNEW := Lib.hid (fun W => walk_New o hS W he)
      clear hp he hto ha hb hc hoo
      unfold ordersV at HNEW
      go_wp2_with fail
      refine (HNEW.out _).mono ?_
      rintro e w4 ⟨mb, wb, tb, rfl, hM4, hz1, hz2, hz3, hB4⟩
      have HM4 := Lib.hid hM4
      have hO4 := HO.out.trans (Only.of_below hB4 (fun k hk => .inr (Nat.le_trans HO.out.size hk)))
      have HO4 := Lib.hid hO4
      have HR4 := Lib.hid (HR.out.below hB4)
      obtain ⟨v, hv1, hv2, hv3⟩ := HR4.out
      have c1 := cell_of_heap hv1 1
      have f1 := free_of_heap hv1 1
      simp at c1
      have hos := HO.out.size
      clear hM4 hO4 hB4 hv1 hv2 hv3 HNEW q0 q1 q2
      go_wp2_with fail
      refine (HNO.out _).mono ?_
      rintro e w9 ⟨rfl, rfl⟩
      go_upto_region 4 with fail
      have hR5 := HR4.out.setM (mp' := mptr mb)
      have hO5 := Only.setCell (B := fun k => k = rb ∨ w.heap.size ≤ k) HO4.out (p := ⟨rb, 1, none⟩) (.inl rfl) (mptr mb)
      have hM5 := HM4.out.only (Only.setCell (B := fun k => k = rb) (Only.refl _ w9) (p := ⟨rb, 1, none⟩) rfl (mptr mb)) (by omega) (by omega) (by omega)
      unfold mptr at hR5 hO5 hM5
      obtain ⟨W5, hW5⟩ : ∃ W5, w9.setCell ⟨rb, 1, none⟩ (.pointer (some ⟨mb, 0, none⟩)) = W5 := ⟨_, rfl⟩
      rw [hW5] at hR5 hO5 hM5 ⊢
      have HT := Lib.hid (show TInv N rb mb wb tb o w (W5.alloc (.cells #[.string ⟨#[]⟩, .int .i64 0] 64)) l [] [] from
        ⟨hR5.below ((Below.refl _ _).alloc (Nat.le_refl _) _), hM5.grow ((Below.refl _ _).alloc (Nat.le_refl _) _), hO5.trans (Only.of_below ((Below.refl _ _).alloc (Nat.le_refl _) _) (fun k hk => .inr (Nat.le_trans hO5.size hk))), hlt.2, by omega, by omega, by omega⟩)
      have hml := hM5.lt
      have hw5 := hO5.size
      clear hR5 hO5 hM5 hW5 c1 f1 HO4 HR4 HM4
      go_cut [5] (fun s wx => s = .pointer (some ⟨W5.heap.size, 0, none⟩) ∧ wx = W5.alloc (.cells #[.string ⟨#[]⟩, .int .i64 0] 64))
      case first =>
        go_wp2_with fail
        all_goals go_meet
        case rel => exact ⟨rfl, rfl⟩
      case rest =>
        obtain ⟨rfl, rfl⟩ := hcut
        have hrest := @walk_read_rest N rb mb wb tb W5.heap.size o w _ l F hS HT.out (alloc_heap_new W5 _) hw5 (by omega) (by omega) (by omega) _ rfl
        simp only [Tryz.f44, Option.getD_some, behind, mptr] at hrest
        apply_assumption
        refine Code.wp_mono (fun e a w2 hq => ?_) (hrest _ _ _ _ _ _ _ _ _ _ _ _ _ _ _ _ _ _ _ _ _ _ _ _ _ _ _ _ _ _ _ _ _ _ _ _ _ _ _ _ _ _ _ _ _ _ _ _ _ _ _ _ _ _ _ _ _ _ _ _ _ _ _ _ _ _ _ _ _ _ _ _ _ _ _ _ _ _ _ _ _ _ _ _ _ _ _ _ _ _ _ _ _ _ _ _ _ _ _ _ _ _ _ _ _ _ _ _ _ _ _ _ _ _ _ _ _ _ _ _ _ _ _ _ _ _ _ _ _ _ _ _ _ _ _ _ _)
        cases e with
        | panic ch => exact ⟨hq.1, AllPost.of HP.out HE.out hq.2⟩
        | normal => exact ⟨hq.1, hq.2.choose, hq.2.choose_spec.1, AllPost.of HP.out HE.out hq.2.choose_spec.2⟩
        | ret => exact ⟨hq.1, hq.2.choose, hq.2.choose_spec.1, AllPost.of HP.out HE.out hq.2.choose_spec.2⟩
        | outgrown => exact AllPost.of HP.out HE.out hq
        | exit => exact hq.elim
        | goto => exact hq.elim

set_option maxRecDepth 100000 in
set_option maxHeartbeats 8000000 in
theorem walk_read_short {N : Nat} {w : World} {rb : Nat} {mp : Value} {l : List UInt8} (h : Rd N w rb mp l) (hl : l.length < 3) :
    Calls Tryz.prog 44 #[.pointer (some ⟨rb, 0, none⟩)] w (AllPost rb l w) := by
  have hp : parse l = none := by
    match l, hl with
    | [], _ => rfl
    | [_], _ => rfl
    | [_, _], _ => rfl
  have HP := Lib.hid hp
  clear hp
  match l, hl, h, HP with
  | [], _, h, HP =>
    have HA := Lib.hid (byte1_bad_from h)
    clear h
    go_enter Tryz.func44, Tryz.ntmps44
    go_wp2_with fail
    go_region_with ((first
        | (go_at_call 69; refine (HA.out _ (by first | exact Below.refl _ _ | exact (Below.refl _ _).drew | exact ((Below.refl _ _).drew).alloc (Nat.le_refl _) _ | exact ((Below.refl _ _).alloc (Nat.le_refl _) _).drew | exact (Below.refl _ _).alloc (Nat.le_refl _) _)).mono ?_; rintro e w1 ⟨rfl, h2⟩; refine panic_way ⟨rfl, AllPost.bad HP.out h2⟩ ?_)))
    all_goals trivial
  | [a], _, h, HP =>
    have HA := Lib.hid (byte1_from' h)
    clear h
    go_enter Tryz.func44, Tryz.ntmps44
    go_wp2_with fail
    go_region_with ((first
        | (go_at_call 69; refine (HA.out _ (by first | exact Below.refl _ _ | exact (Below.refl _ _).drew | exact ((Below.refl _ _).drew).alloc (Nat.le_refl _) _ | exact ((Below.refl _ _).alloc (Nat.le_refl _) _).drew | exact (Below.refl _ _).alloc (Nat.le_refl _) _)).mono ?_; rintro e w1 ⟨rfl, h1, h2⟩; have HO1 := Lib.hid h2; have HB := Lib.hid (byte1_bad_from h1); clear h1 h2 HA)
        | (go_at_call 69; refine (HB.out _ (by first | exact Below.refl _ _ | exact (Below.refl _ _).drew | exact ((Below.refl _ _).drew).alloc (Nat.le_refl _) _ | exact ((Below.refl _ _).alloc (Nat.le_refl _) _).drew | exact (Below.refl _ _).alloc (Nat.le_refl _) _)).mono ?_; rintro e w2 ⟨rfl, h2⟩; refine panic_way ⟨rfl, AllPost.bad HP.out (HO1.out.step h2)⟩ ?_)))
    all_goals trivial
  | [a, b], _, h, HP =>
    have HA := Lib.hid (byte1_from' h)
    clear h
    go_enter Tryz.func44, Tryz.ntmps44
    go_wp2_with fail
    go_region_with ((first
        | (go_at_call 69; refine (HA.out _ (by first | exact Below.refl _ _ | exact (Below.refl _ _).drew | exact ((Below.refl _ _).drew).alloc (Nat.le_refl _) _ | exact ((Below.refl _ _).alloc (Nat.le_refl _) _).drew | exact (Below.refl _ _).alloc (Nat.le_refl _) _)).mono ?_; rintro e w1 ⟨rfl, h1, h2⟩; have HO1 := Lib.hid h2; have HB := Lib.hid (byte1_from' h1); clear h1 h2 HA)
        | (go_at_call 69; refine (HB.out _ (by first | exact Below.refl _ _ | exact (Below.refl _ _).drew | exact ((Below.refl _ _).drew).alloc (Nat.le_refl _) _ | exact ((Below.refl _ _).alloc (Nat.le_refl _) _).drew | exact (Below.refl _ _).alloc (Nat.le_refl _) _)).mono ?_; rintro e w2 ⟨rfl, h1, h2⟩; have HO2 := Lib.hid h2; have HC := Lib.hid (byte1_bad_from h1); clear h1 h2 HB)
        | (go_at_call 69; refine (HC.out _ (by first | exact Below.refl _ _ | exact (Below.refl _ _).drew | exact ((Below.refl _ _).drew).alloc (Nat.le_refl _) _ | exact ((Below.refl _ _).alloc (Nat.le_refl _) _).drew | exact (Below.refl _ _).alloc (Nat.le_refl _) _)).mono ?_; rintro e w3 ⟨rfl, h2⟩; refine panic_way ⟨rfl, AllPost.bad HP.out ((HO1.out.step HO2.out).step h2)⟩ ?_)))
    all_goals trivial

theorem walk_read {N : Nat} {w : World} {rb : Nat} {l : List UInt8} (h : Rd N w rb (.pointer none) l) :
    Calls Tryz.prog 44 #[.pointer (some ⟨rb, 0, none⟩)] w (AllPost rb l w) := by
  by_cases hl : l.length < 3
  · exact walk_read_short h hl
  · match l, hl, h with
    | a :: b :: c :: l, _, h => exact walk_read_long h
    | [], hl, _ => exact absurd (by simp) hl
    | [_], hl, _ => exact absurd (by simp) hl
    | [_, _], hl, _ => exact absurd (by simp) hl

set_option maxRecDepth 100000 in
set_option maxHeartbeats 1000000 in
theorem load_catch {pm pe : Nat} {older : List PanicEntry} {x y : Value} {w : World} (hm : w.heap[pm]? = some (.cells #[x] 28 (0, 0))) (he : w.heap[pe]? = some (.cells #[y] 29 (0, 0))) (hne : pm ≠ pe) :
    CallsD Tryz.prog 43 #[.pointer (some ⟨pm, 0, none⟩), .pointer (some ⟨pe, 0, none⟩)] (.panicking ({ v := .iface 99 (.agg #[]), recovered := false } :: older)) w fun e u' w' =>
      e = .returned (.tuple #[]) ∧ u' = .panicking ({ v := .iface 99 (.agg #[]), recovered := true } :: older) ∧ w'.heap[pm]? = some (.cells #[.pointer none] 28 (0, 0)) ∧ w'.heap[pe]? = some (.cells #[.int .i64 2] 29 (0, 0)) ∧ Only (fun k => k = pm ∨ k = pe ∨ w.heap.size ≤ k) w w' := by
  have c0 := cell_of_heap hm 0
  have c1 := cell_of_heap he 0
  have f0 := free_of_heap hm 0
  have f1 := free_of_heap he 0
  simp at c0 c1
  have l0 := (Array.getElem?_eq_some_iff.1 hm).1
  have l1 := (Array.getElem?_eq_some_iff.1 he).1
  have n0 : ¬ pm = pe := hne
  have n1 : ¬ pe = pm := fun h => hne h.symm
  have HM := Lib.hid hm
  have HE := Lib.hid he
  clear hm he
  refine callsD_of_wpS Tryz.func43 rfl fun c₀ cs hu => ?_
  apply wpS_seq
  apply wpS_region
  simp [wpOpsS, go_sem, recoverD, hu, Tryz.ntmps43, Exit.thenS]
  have hta : ∀ W : World, (Instr.typeAssert (.iface 99 (.agg #[])) 20 99 true).run Tryz.prog W = .ok (.tuple #[.agg #[], .bool true]) W := fun W => by kernel_rfl
  refine wpS_of_wp (show Code.wp Tryz.prog _ _ ⟨#[.pointer (some ⟨pm, 0, none⟩), .pointer (some ⟨pe, 0, none⟩), .iface 99 (.agg #[]), undef, undef, .iface 99 (.agg #[]), undef, undef, undef, undef, undef, undef, undef, undef, undef, undef], []⟩ w from ?_)
  go_wp2_with fail
  have hO1 := Only.setCell (B := fun k => k = pm) (Only.refl _ w) (p := ⟨pm, 0, none⟩) rfl (.pointer none)
  have hO2 := Only.setCell (B := fun k => k = pe) (Only.refl _ (w.setCell ⟨pm, 0, none⟩ (.pointer none))) (p := ⟨pe, 0, none⟩) rfl (.int .i64 2)
  have hm1 : (w.setCell ⟨pm, 0, none⟩ (.pointer none)).heap[pm]? = some (.cells #[.pointer none] 28 (0, 0)) := heap_setCell_same _ _ _ _ _ _ HM.out
  have he1 := (hO1.block pe n1).trans HE.out
  have hm2 := (hO2.block pm n0).trans hm1
  have he2 : ((w.setCell ⟨pm, 0, none⟩ (.pointer none)).setCell ⟨pe, 0, none⟩ (.int .i64 2)).heap[pe]? = some (.cells #[.int .i64 2] 29 (0, 0)) := heap_setCell_same _ _ _ _ _ _ he1
  refine ⟨rfl, _, rfl, _, by simp [results, Tryz.results43], rfl, rfl, ?_, ?_, ?_⟩
  · exact (heap_alloc_lt _ _ (Array.getElem?_eq_some_iff.1 hm2).1).trans hm2
  · exact (heap_alloc_lt _ _ (Array.getElem?_eq_some_iff.1 he2).1).trans he2
  · exact ((hO1.mono (fun k hk => .inl hk)).trans (hO2.mono (fun k hk => .inr (.inl hk)))).alloc (fun k hk => .inr (.inr hk)) _

set_option maxRecDepth 100000 in
set_option maxHeartbeats 1000000 in
theorem load_idle (p q : Addr) (w : World) :
    CallsD Tryz.prog 43 #[.pointer (some p), .pointer (some q)] .returning w fun e u' w' => e = .returned (.tuple #[]) ∧ u' = .returning ∧ w' = w := by
  refine callsD_of_wpS Tryz.func43 rfl fun c₀ cs hu => ?_
  apply wpS_seq
  apply wpS_region
  simp [wpOpsS, go_sem, recoverD, hu, Tryz.ntmps43, Exit.thenS]
  refine wpS_of_wp (show Code.wp Tryz.prog _ _ ⟨#[.pointer (some p), .pointer (some q), .nilIface, undef, undef, .nilIface, undef, undef, undef, undef, undef, undef, undef, undef, undef, undef], []⟩ w from ?_)
  go_wp2_with fail
  refine ⟨rfl, _, ?_, _, by simp [results, Tryz.results43], rfl, rfl, rfl⟩
  cases c₀
  simp_all

theorem Below.of_only {B : Nat → Prop} {N : Nat} {w w' : World} (h : Only B w w') (hB : ∀ k, k < N → ¬ B k) : Below N w w' := ⟨h.os, h.tape, h.output, h.size, fun k hk => h.block k (hB k hk)⟩

/-- A map was loaded, or there is none. -/
def LoadPost (l : List UInt8) (w : World) (e : Ending) (w' : World) : Prop :=
  match parse l with
  | some (o, W, T) => ∃ mb wb tb : Nat, e = .returned (.tuple #[mptr mb, .int .i64 0]) ∧ MRep w' o mb wb tb (W.map fun e => (e, true)) T ∧ w.heap.size ≤ mb ∧ w.heap.size ≤ wb ∧ w.heap.size ≤ tb ∧ Below w.heap.size w w'
  | none => e = .returned (.tuple #[.pointer none, .int .i64 2]) ∧ Below w.heap.size w w'

set_option maxRecDepth 100000 in
set_option maxHeartbeats 2000000 in
theorem walk_Load {w : World} {v : Value} {l : List UInt8} (h : BSlice w.heap.size w v l) :
    Calls Tryz.prog 16 #[v] w (LoadPost l w) := by
  have hmf : ∀ (fn : Fn) (first cap : Array Value) (w : World), (Instr.makeFunc fn first cap).run Tryz.prog w = .ok (.func fn first cap) w := fun _ _ _ _ => rfl
  have hv := h
  obtain ⟨a, cap, rfl, _, _⟩ := hv
  obtain ⟨W0, hW0⟩ : ∃ W0, ((w.alloc (.cells #[.pointer none] 28)).alloc (.cells #[.int .i64 0] 29)).alloc (.cells #[.slice a l.length cap, .pointer none] 105) = W0 := ⟨_, rfl⟩
  have hB0 : Below w.heap.size w W0 := by rw [← hW0]; exact (((Below.refl _ _).alloc (Nat.le_refl _) _).alloc (by simp) _).alloc (by simp; omega) _
  have hs0 : W0.heap.size = w.heap.size + 3 := by rw [← hW0]; simp
  have hm0 : W0.heap[w.heap.size]? = some (.cells #[.pointer none] 28 (0, 0)) := by
    rw [← hW0, heap_alloc_lt _ _ (by simp; omega), heap_alloc_lt _ _ (by simp)]; exact alloc_heap_new w _
  have he0 : W0.heap[w.heap.size + 1]? = some (.cells #[.int .i64 0] 29 (0, 0)) := by
    rw [← hW0, heap_alloc_lt _ _ (by simp)]
    have h := alloc_heap_new (w.alloc (.cells #[.pointer none] 28)) (.cells #[.int .i64 0] 29)
    rwa [World.size_alloc] at h
  have hr0 : W0.heap[w.heap.size + 1 + 1]? = some (.cells #[.slice a l.length cap, .pointer none] 105 (0, 0)) := by
    rw [← hW0]
    have h := alloc_heap_new ((w.alloc (.cells #[.pointer none] 28)).alloc (.cells #[.int .i64 0] 29)) (.cells #[.slice a l.length cap, .pointer none] 105)
    rwa [World.size_alloc, World.size_alloc] at h
  have HRD := Lib.hid (walk_read (N := w.heap.size) (w := W0) (rb := w.heap.size + 1 + 1) (l := l) ⟨_, hr0, by omega, h.below hB0⟩)
  have HB0 := Lib.hid hB0
  have HM0 := Lib.hid hm0
  have HE0 := Lib.hid he0
  clear h hB0 hm0 he0 hr0
  go_enter_defers Tryz.func16, Tryz.ntmps16
  go_wp2_with fail
  clear hW0
  refine HRD.out.mono ?_
  intro e w1 hpost
  unfold AllPost at hpost
  cases hp : parse l with
  | none =>
    rw [hp] at hpost
    obtain ⟨rfl, hO⟩ := hpost
    have HP := Lib.hid hp
    have hm1 := (hO.block w.heap.size (by omega)).trans HM0.out
    have he1 := (hO.block (w.heap.size + 1) (by omega)).trans HE0.out
    have HO := Lib.hid hO
    clear hO hp
    simp only
    refine leaves_cons (f := 43) (args := #[.pointer (some ⟨w.heap.size, 0, none⟩), .pointer (some ⟨w.heap.size + 1, 0, none⟩)]) (by simp) (by simp [go_sem]) ?_
    refine (load_catch (older := []) hm1 he1 (by omega)).mono ?_
    rintro e u' w2 ⟨rfl, rfl, hm2, he2, hO2⟩
    have c0 := cell_of_heap hm2 0
    have c1 := cell_of_heap he2 0
    simp at c0 c1
    simp [Leaves, settle, results, Tryz.results16, go_sem, c0, c1]
    unfold LoadPost
    rw [HP.out]
    have hb1 : Below w.heap.size W0 w1 := Below.of_only HO.out (fun k hk => by omega)
    have hz := HO.out.size
    have hb2 : Below w.heap.size w1 w2 := Below.of_only hO2 (fun k hk => by omega)
    exact ⟨rfl, (HB0.out.trans hb1).trans hb2⟩
  | some q =>
    obtain ⟨o, W, T⟩ := q
    rw [hp] at hpost
    obtain ⟨⟨rfl, hO, mb, wb, tb, z1, z2, z3, ⟨v, hv⟩, hM⟩, he⟩ := hpost
    have HP := Lib.hid hp
    have hm1 := (hO.block w.heap.size (by omega)).trans HM0.out
    have he1 := (hO.block (w.heap.size + 1) (by omega)).trans HE0.out
    have HO := Lib.hid hO
    have HMR := Lib.hid hM
    have c0 := cell_of_heap hm1 0
    have c1 := cell_of_heap he1 0
    have f0 := free_of_heap hm1 0
    have f1 := free_of_heap he1 0
    have c2 := cell_of_heap hv 1
    simp [mptr] at c0 c1 c2
    have HM1 := Lib.hid hm1
    have HE1 := Lib.hid he1
    clear hO hp hM hv hm1 he1 he
    simp only
    go_wp2_with fail
    refine leaves_cons (f := 43) (args := #[.pointer (some ⟨w.heap.size, 0, none⟩), .pointer (some ⟨w.heap.size + 1, 0, none⟩)]) (by simp) (by simp [go_sem]) ?_
    refine (load_idle _ _ _).mono ?_
    rintro e u' w2 ⟨rfl, rfl, rfl⟩
    simp [Leaves, settle, results, Tryz.results16, go_sem, c0, c1]
    unfold LoadPost
    rw [HP.out]
    have hO3 := Only.setCell (B := fun k => k = w.heap.size) (Only.refl _ w1) (p := ⟨w.heap.size, 0, none⟩) rfl (.pointer (some ⟨mb, 0, none⟩))
    have hO4 := Only.setCell (B := fun k => k = w.heap.size + 1) (Only.refl _ (w1.setCell ⟨w.heap.size, 0, none⟩ (.pointer (some ⟨mb, 0, none⟩)))) (p := ⟨w.heap.size + 1, 0, none⟩) rfl (.int .i64 0)
    have hO5 : Only (fun k => k = w.heap.size ∨ k = w.heap.size + 1) w1 _ := (hO3.mono fun k hk => .inl hk).trans (hO4.mono fun k hk => .inr hk)
    have hb1 : Below w.heap.size W0 w1 := Below.of_only HO.out (fun k hk => by omega)
    have hb2 := Below.of_only (N := w.heap.size) hO5 (fun k hk => by omega)
    exact ⟨mb, wb, tb, rfl, HMR.out.only hO5 (by omega) (by omega) (by omega), by omega, by omega, by omega, (HB0.out.trans hb1).trans hb2⟩
end Go.Proofs.YtbfnnlcckpabnaaGreat
