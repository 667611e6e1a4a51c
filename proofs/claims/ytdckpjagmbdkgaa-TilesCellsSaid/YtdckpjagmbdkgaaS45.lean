import Derived.Test.YtdckpjagmbdkgaaT8
import Derived.Test.YtdckpjagmbdkgaaR6
import Derived.Test.YtdckpjagmbdkgaaLds
import Derived.Test.YtdckpjagmbdkgaaDist

/- The specification of layer 4: mirrors of a corner, its order, the error of a corner. -/
namespace Go.Proofs.Ytdckpjagmbdkgaa
set_option linter.unusedSimpArgs false
set_option linter.unusedVariables false
open Go.RowKit
open Hy (Lets IsNF nfw)

set_option maxRecDepth 100000 in
theorem r04_first (m : Nat) (hm : m ≤ 2) (w : World) : Calls Try.prog 43 #[.int .i64 m] w fun e w' => e = .returned (.int .i64 (fstM m : Nat)) ∧ Below w.heap.size w w' := by
  go_enter Try.func43, Try.ntmps43
  have : m = 0 ∨ m = 1 ∨ m = 2 := by omega
  rcases this with rfl | rfl | rfl
  all_goals go_wp2_with fail
  all_goals go_returns
  all_goals exact ⟨rfl, Below.refl _ _⟩

set_option maxRecDepth 100000 in
theorem r04_second (m : Nat) (hm : m ≤ 2) (w : World) : Calls Try.prog 44 #[.int .i64 m] w fun e w' => e = .returned (.int .i64 (sndM m : Nat)) ∧ Below w.heap.size w w' := by
  go_enter Try.func44, Try.ntmps44
  have : m = 0 ∨ m = 1 ∨ m = 2 := by omega
  rcases this with rfl | rfl | rfl
  all_goals go_wp2_with fail
  all_goals go_returns
  all_goals exact ⟨rfl, Below.refl _ _⟩

set_option maxRecDepth 100000 in
set_option maxHeartbeats 1000000 in
theorem r04_Order (o : Hy.Ord) (m : Nat) (hm : m ≤ 2) (w : World) : Calls Try.prog 42 #[ordersV o.m01 o.m12 o.m02, .int .i64 m] w fun e w' => e = .returned (.int .i64 (o.m (fstM m) (sndM m))) ∧ Below w.heap.size w w' := by
  have fs := fst_snd m
  have H1 := Lib.hid (fun W => r04_first m hm W)
  have H2 := Lib.hid (fun W => r04_second m hm W)
  have H3 := Lib.hid (fun W => r03_Between o (fstM m) (sndM m) fs.1 fs.2.1 fs.2.2 W)
  have q0 := World.alloc_heap_new w (.cells #[.int .i64 o.m01, .int .i64 o.m12, .int .i64 o.m02] 23)
  have HQ0 := Lib.hid q0
  have HB0 := Lib.hid ((Below.refl w.heap.size w).alloc (Nat.le_refl _) (.cells #[.int .i64 o.m01, .int .i64 o.m12, .int .i64 o.m02] 23))
  clear q0 fs hm
  generalize fstM m = f at *
  generalize sndM m = s at *
  unfold ordersV at *
  go_enter Try.func42, Try.ntmps42
  go_upto_region 1 with fail
  generalize w.alloc (.cells #[.int .i64 o.m01, .int .i64 o.m12, .int .i64 o.m02] 23) = W0 at *
  have lk0 : w.heap.size < W0.heap.size := (Array.getElem?_eq_some_iff.1 HQ0.out).1
  have k0 := cell_of_heap HQ0.out 0
  have k1 := cell_of_heap HQ0.out 1
  have k2 := cell_of_heap HQ0.out 2
  simp at k0 k1 k2
  have l0 := fun (y : Later W0) => ((bcell y.h).1 _ _ lk0).trans k0
  have l1 := fun (y : Later W0) => ((bcell y.h).1 _ _ lk0).trans k1
  have l2 := fun (y : Later W0) => ((bcell y.h).1 _ _ lk0).trans k2
  clear k0 k1 k2
  refine wp_region_later (by kernel_rfl) (by kernel_rfl) ?_
  repeat (go_big_quiet_step ((first | (go_at_call 43; refine (H1.out _).mono ?_; rintro e w6 ⟨rfl, hB6⟩; exact ⟨rfl, ⟨w6, (Later.h _).trans (hB6.mono (Later.h _).size)⟩, rfl⟩) | (go_at_call 44; refine (H2.out _).mono ?_; rintro e w6 ⟨rfl, hB6⟩; exact ⟨rfl, ⟨w6, (Later.h _).trans (hB6.mono (Later.h _).size)⟩, rfl⟩) | (go_at_call 70; refine (H3.out _).mono ?_; rintro e w6 ⟨rfl, hB6⟩; exact ⟨rfl, ⟨w6, (Later.h _).trans (hB6.mono (Later.h _).size)⟩, rfl⟩))))
  refine wpQuiet_nil ?_
  rintro _ ⟨pl, rfl⟩
  go_wp2_with fail
  go_returns
  exact ⟨rfl, HB0.out.trans (pl.h.mono HB0.out.size)⟩

theorem texts_one (w : World) (u : List UInt8) : Texts (w.alloc (.cells #[.string ⟨u.toArray⟩] 9)) (.slice (some ⟨w.heap.size, 0, none⟩) 1 1) [u] := by
  have h := alloc_heap_new w (.cells #[.string ⟨u.toArray⟩] 9)
  refine ⟨w.heap.size, 1, rfl, by simp, fun k hk => ?_⟩
  rw [cell_of_heap h]
  have : k = 0 := by simp at hk; omega
  rcases this with rfl
  rfl

set_option maxRecDepth 100000 in
set_option maxHeartbeats 2000000 in
theorem r04_Asked (a b c : Int) (u : List UInt8) (mi : Int) (hlu : u.length ≤ 9223372036854775807) (w : World) :
    Calls Try.prog 21 #[ordersV a b c, str u, .int .i64 mi] w fun e w' => e = .returned (.int .i64 (cornErr a b c u mi)) ∧ Below w.heap.size w w' := by
  have HERR := Lib.hid (fun W sv hs => r03_Errors a b c (w := W) (sv := sv) (ws := [u]) hs (by simp) (by simp; omega))
  have HTX := Lib.hid (fun W => texts_one W u)
  have q0 := World.alloc_heap_new w (.cells #[.int .i64 a, .int .i64 b, .int .i64 c] 23)
  have HQ0 := Lib.hid q0
  have HB0 := Lib.hid ((Below.refl w.heap.size w).alloc (Nat.le_refl _) (.cells #[.int .i64 a, .int .i64 b, .int .i64 c] 23))
  have HORD : Hy.allErr a b c [u] = 0 → 0 ≤ mi → mi ≤ 2 → ∀ W, Calls Try.prog 42 #[ordersV a b c, .int .i64 mi] W fun e w' => e = .returned (.int .i64 ((Hy.toOrd a b c).m (fstM mi.toNat) (sndM mi.toNat))) ∧ Below W.heap.size W w' := fun h0 h1 h2 W => by
    have hc := toOrd_casts (allErr_ord h0)
    have := r04_Order (Hy.toOrd a b c) mi.toNat (by omega) W
    rw [hc.1, hc.2.1, hc.2.2, Int.toNat_of_nonneg h1] at this
    exact this
  have HE := Lib.hid (show cornErr a b c u mi = if Hy.allErr a b c [u] ≠ 0 then Hy.allErr a b c [u] else if mi < 0 ∨ 2 < mi then 1 else if (Hy.toOrd a b c).m (fstM mi.toNat) (sndM mi.toNat) = 0 then 4 else 0 from rfl)
  generalize cornErr a b c u mi = ce at *
  have HOR := Lib.hid HORD
  generalize hM : (Hy.toOrd a b c).m (fstM mi.toNat) (sndM mi.toNat) = M at *
  generalize Hy.allErr a b c [u] = er at *
  clear q0 hlu HORD hM
  unfold ordersV str at *
  go_enter Try.func21, Try.ntmps21
  go_upto_region 1 with fail
  generalize w.alloc (.cells #[.int .i64 a, .int .i64 b, .int .i64 c] 23) = W0 at *
  have lk0 : w.heap.size < W0.heap.size := (Array.getElem?_eq_some_iff.1 HQ0.out).1
  have k0 := cell_of_heap HQ0.out 0
  have k1 := cell_of_heap HQ0.out 1
  have k2 := cell_of_heap HQ0.out 2
  simp at k0 k1 k2
  have HK := Lib.hid (And.intro k0 (And.intro k1 k2))
  go_wp2_with fail
  refine (HERR.out _ _ (HTX.out W0)).mono ?_
  rintro e w1 ⟨rfl, hB⟩
  have hB1 : Below W0.heap.size W0 w1 := ((Below.refl _ _).alloc (Nat.le_refl _) _).trans (hB.mono (by simp))
  have HB1 := Lib.hid hB1
  clear hB hB1 k0 k1 k2
  by_cases he : er = 0
  · have he' : (er != 0) = false := by rw [he]; rfl
    by_cases hm1 : mi < 0
    · go_wp2_with fail
      go_returns
      exact ⟨ret_int (by rw [HE.out, if_neg (by simp [he]), if_pos (.inl hm1)]), HB0.out.trans (HB1.out.mono HB0.out.size)⟩
    · by_cases hm2 : 2 < mi
      · go_wp2_with fail
        go_returns
        exact ⟨ret_int (by rw [HE.out, if_neg (by simp [he]), if_pos (.inr hm2)]), HB0.out.trans (HB1.out.mono HB0.out.size)⟩
      · have HO := Lib.hid (HOR.out he (by omega) (by omega))
        have c0 := (HB1.out.cell (p := ⟨w.heap.size, 0, none⟩) lk0).trans HK.out.1
        have c1 := (HB1.out.cell (p := ⟨w.heap.size, 1, none⟩) lk0).trans HK.out.2.1
        have c2 := (HB1.out.cell (p := ⟨w.heap.size, 2, none⟩) lk0).trans HK.out.2.2
        have HE2 := Lib.hid (show ce = if M = 0 then 4 else 0 from by rw [HE.out, if_neg (by simp [he]), if_neg (by omega)])
        go_wp2_with fail
        refine (HO.out _).mono ?_
        rintro e w2 ⟨rfl, hB⟩
        have HB2 := Lib.hid (HB1.out.trans (hB.mono HB1.out.size))
        clear hB c0 c1 c2
        by_cases hM : M = 0
        · subst hM
          go_wp2_with fail
          go_returns
          exact ⟨ret_int (by rw [HE2.out]; simp), HB0.out.trans (HB2.out.mono HB0.out.size)⟩
        · have hM' : (((M : Nat) : Int) == 0) = false := by rw [beq_eq_false_iff_ne]; omega
          go_wp2_with fail
          go_returns
          exact ⟨ret_int (by rw [HE2.out, if_neg hM]), HB0.out.trans (HB2.out.mono HB0.out.size)⟩
  · have he' : (er != 0) = true := by rw [bne_iff_ne]; exact he
    go_wp2_with fail
    go_returns
    exact ⟨ret_int (by rw [HE.out, if_pos he]), HB0.out.trans (HB1.out.mono HB0.out.size)⟩
end Go.Proofs.Ytdckpjagmbdkgaa

/- The specification of layer 4: the tiles around a corner. -/
namespace Go.Proofs.Ytdckpjagmbdkgaa
set_option linter.unusedSimpArgs false
set_option linter.unusedVariables false
open Go.RowKit
open Hy (Lets IsNF nfw circW aroundW shortest V)

theorem run_add_str {P : Program} (a b : List UInt8) (h : a.length + b.length ≤ 1000000) (w : World) : (Op.stringOp .add ⟨a.toArray⟩ ⟨b.toArray⟩).run P w = .ok (.string ⟨(a ++ b).toArray⟩) w := by
  have h2 : IntKind.i64.max = 2 ^ 63 - 1 := rfl
  rw [← bytes_add]
  simp only [Op.stringOp, ByteArray.size, List.size_toArray, h2]
  rw [if_neg (by simp; omega)]
  rfl

set_option maxRecDepth 100000 in
theorem r04_letter (i : Nat) (hi : i < 256) (w : World) : Calls Try.prog 75 #[.int .i64 i] w fun e w' => e = .returned (str (Hy.letter i)) ∧ Below w.heap.size w w' := by
  have kl := run_letter (w.alloc (.cells #[.int .u8 i] 5)) w.heap.size i (by simp)
  have hcm : IntKind.u8.wrap (i : Int) = (i : Int) := by simp [IntKind.wrap, IntKind.bits, IntKind.signed]; omega
  unfold str at *
  go_enter Try.func75, Try.ntmps75
  go_wp2_with fail
  go_returns
  exact ⟨rfl, (Below.refl _ _).alloc (Nat.le_refl _) _⟩

theorem V_snoc (n f s : Nat) : V (n + 1) f s = V n f s ++ Hy.letter (if n % 2 = 0 then f else s) := by
  have h := Hy.V_alt n 1 f s
  rw [h]
  congr 1

set_option maxRecDepth 100000 in
set_option maxHeartbeats 4000000 in
theorem r04_circle {o : Hy.Ord} (F : Hy.Fine o) (hS : Small o) (u : List UInt8) (hu : Lets u) (hul : u.length ≤ 400) (m : Nat) (hm : m ≤ 2) (w : World) :
    Calls Try.prog 48 #[ordersV o.m01 o.m12 o.m02, str u, .int .i64 m] w fun e w' => ∃ v, e = .returned v ∧ GQ w' v ((circW o u (fstM m) (sndM m) (2 * o.m (fstM m) (sndM m))).map str) ∧ (∀ b, v.ownBlock = some b → w.heap.size ≤ b) ∧ Below w.heap.size w w' := by
  have fs := fst_snd m
  have HORD := Lib.hid (fun W => r04_Order o m hm W)
  have H1 := Lib.hid (fun W => r04_first m hm W)
  have H2 := Lib.hid (fun W => r04_second m hm W)
  obtain ⟨f, hf⟩ : ∃ f, f = fstM m := ⟨_, rfl⟩
  obtain ⟨s, hs⟩ : ∃ s, s = sndM m := ⟨_, rfl⟩
  rw [← hf, ← hs] at fs
  rw [← hf] at H1 HORD ⊢
  rw [← hs] at H2 HORD ⊢
  obtain ⟨M, hM⟩ : ∃ M, M = o.m f s := ⟨_, rfl⟩
  rw [← hM] at HORD ⊢
  have hM12 : M ≤ 12 := by rw [hM]; exact order_small hS f s
  have HWORD := Lib.hid (fun (n : Nat) (hn : n ≤ 100) W => r03_Word_nf F hS (l := u ++ V n f s) (n := nfw o (u ++ V n f s)) (Hy.Lets.app.2 ⟨hu, Hy.V_lets fs.1 fs.2.1⟩) (by rw [List.length_append, Hy.V_length]; omega) (Hy.nfw_is F (Hy.Lets.app.2 ⟨hu, Hy.V_lets fs.1 fs.2.1⟩) (by rw [List.length_append, Hy.V_length]; omega)) W)
  have HL1 := Lib.hid (fun W => r04_letter f (by omega) W)
  have HL2 := Lib.hid (fun W => r04_letter s (by omega) W)
  have HADD := Lib.hid (fun (n : Nat) (hn : n ≤ 100) (W : World) (c : Nat) => run_add_str (P := Try.prog) (u ++ V n f s) (Hy.letter c) (by rw [List.length_append, Hy.V_length]; simp [Hy.letter]; omega) W)
  have HFS := Lib.hid fs
  have q0 := World.alloc_heap_new w (.cells #[.int .i64 o.m01, .int .i64 o.m12, .int .i64 o.m02] 23)
  have HQ0 := Lib.hid q0
  have HB0 := Lib.hid ((Below.refl w.heap.size w).alloc (Nat.le_refl _) (.cells #[.int .i64 o.m01, .int .i64 o.m12, .int .i64 o.m02] 23))
  have hu0 : str u = str (u ++ V 0 f s) := by rw [show V 0 f s = [] from rfl, List.append_nil]
  have HGET := Lib.hid (fun (n : Nat) (hn : n < 2 * M) => Hy.circW_get (o := o) (w := u) (f := f) (s := s) hn)
  have HLEN := Lib.hid (show (circW o u f s (2 * M)).length = 2 * M from Hy.length_circW)
  generalize circW o u f s (2 * M) = CW at *
  rw [hu0]
  clear q0 fs hf hs hM hu hul hm hu0
  unfold ordersV str at *
  go_enter Try.func48, Try.ntmps48
  go_upto_region 1 with fail
  generalize w.alloc (.cells #[.int .i64 o.m01, .int .i64 o.m12, .int .i64 o.m02] 23) = W0 at *
  have lk0 : w.heap.size < W0.heap.size := (Array.getElem?_eq_some_iff.1 HQ0.out).1
  have k0 := cell_of_heap HQ0.out 0
  have k1 := cell_of_heap HQ0.out 1
  have k2 := cell_of_heap HQ0.out 2
  simp at k0 k1 k2
  have HK := Lib.hid (And.intro k0 (And.intro k1 k2))
  clear k0 k1 k2
  go_upto_region 3 with fail
  have hbe := (Below.refl W0.heap.size W0).alloc (Nat.le_refl _) (.cells #[] 9)
  have HQE := Lib.hid (show GQ (W0.alloc (.cells #[] 9)) (.slice (some ⟨W0.heap.size, 0, none⟩) 0 0) ((CW.take 0).map str) from .inr ⟨W0.heap.size, QRow.new W0 [] 0 1 9 rfl (by decide)⟩)
  have HBE := Lib.hid hbe
  have HOE := Lib.hid (show ∀ b, Value.ownBlock (.slice (some ⟨W0.heap.size, 0, none⟩) 0 0) = some b → W0.heap.size ≤ b from fun b hb => by simp [Value.ownBlock] at hb; omega)
  clear hbe
  generalize W0.alloc (.cells #[] 9) = W1 at *
  go_wp2_with fail
  go_loopw [7, 8, 9] (fun vo wv nv wr => ∃ (n : Nat), wv = .string ⟨(u ++ V n f s).toArray⟩ ∧ nv = .int .i64 n ∧ n ≤ 2 * M ∧ Hid (GQ wr vo ((CW.take n).map str)) ∧ Hid (∀ b, vo.ownBlock = some b → W0.heap.size ≤ b) ∧ Hid (Below W0.heap.size W0 wr)) (fun _ _ nv _ => 2 * M - (intOf nv).toNat)
  case atStart => exact ⟨0, rfl, rfl, Nat.zero_le _, HQE, HOE, HBE⟩
  case round =>
    clear HQE HOE HBE
    obtain ⟨n, rfl, rfl, hn, HG, HW, HB⟩ := hrel
    have c0 := (HB.out.cell (p := ⟨w.heap.size, 0, none⟩) lk0).trans HK.out.1
    have c1 := (HB.out.cell (p := ⟨w.heap.size, 1, none⟩) lk0).trans HK.out.2.1
    have c2 := (HB.out.cell (p := ⟨w.heap.size, 2, none⟩) lk0).trans HK.out.2.2
    go_wp2_with fail
    refine (HORD.out _).mono ?_
    rintro e w2 ⟨rfl, hB2⟩
    have HB2 := Lib.hid (HB.out.trans (hB2.mono HB.out.size))
    have HG2 := Lib.hid (HG.out.later hB2)
    clear hB2 HB HG c0 c1 c2
    by_cases hlt : n < 2 * M
    · have hlti : (n : Int) < 2 * (M : Int) := by omega
      have c0 := (HB2.out.cell (p := ⟨w.heap.size, 0, none⟩) lk0).trans HK.out.1
      have c1 := (HB2.out.cell (p := ⟨w.heap.size, 1, none⟩) lk0).trans HK.out.2.1
      have c2 := (HB2.out.cell (p := ⟨w.heap.size, 2, none⟩) lk0).trans HK.out.2.2
      go_wp2_with fail
      refine (HWORD.out n (by omega) _).mono ?_
      rintro e w3 ⟨rfl, hB3⟩
      have HB3 := Lib.hid (HB2.out.trans (hB3.mono HB2.out.size))
      obtain ⟨xs, hxs⟩ : ∃ xs, xs = (CW.take n).map str := ⟨_, rfl⟩
      have HGQ := Lib.hid (show GQ w3 u7 xs from by rw [hxs]; exact HG2.out.later hB3)
      have HXL := Lib.hid (show xs.length ≤ 900000000 from by rw [hxs]; simp; omega)
      have HXS := Lib.hid hxs
      have HAT := Lib.hid (HGET.out n hlt)
      obtain ⟨nn, hnn⟩ : ∃ nn, nn = nfw o (u ++ V n f s) := ⟨_, rfl⟩
      rw [← hnn] at HAT ⊢
      clear hB3 hxs HG2 HB2 c0 c1 c2 hnn
      go_wp2_with (at_builtin; refine wpList_gq1 w3 rowStr rfl _ _ rfl (v := u7) (xs := xs) rfl HGQ.out _ (.string ⟨nn.toArray⟩) rfl rfl HXL.out ?_)
      intro vo' w4 hq4 ho4 hv4
      have HG4 := Lib.hid (show GQ w4 vo' ((CW.take (n + 1)).map str) from by
        have e : CW.take (n + 1) = CW.take n ++ [nn] := by rw [List.take_add_one, HAT.out]; rfl
        rw [e, List.map_append, ← HXS.out]
        exact hq4)
      have HW4 := Lib.hid (show ∀ b, vo'.ownBlock = some b → W0.heap.size ≤ b from fun b hb => by
        rcases hv4 b hb with h | h
        · exact HW.out b h
        · have := HB3.out.size; omega)
      have HB4 := Lib.hid (HB3.out.trans (ho4.below (fun k hk => by
        rcases hk with hk | hk
        · exact HW.out k hk
        · have := HB3.out.size; omega)))
      clear hq4 ho4 hv4 HGQ HXL HXS HAT HW HB3
      by_cases hpar : n % 2 = 0
      · have hp : (n : Int) % 2 = 0 := by omega
        have hadd := fun W => HADD.out n (by omega) W f
        have hsn : u ++ V (n + 1) f s = u ++ V n f s ++ Hy.letter f := by rw [V_snoc, if_pos hpar, List.append_assoc]
        have HSN := Lib.hid hsn
        clear hpar hsn
        go_wp2_with fail
        refine (H1.out _).mono ?_
        rintro e w5 ⟨rfl, hB5⟩
        have HB5 := Lib.hid (HB4.out.trans (hB5.mono HB4.out.size))
        have HG5 := Lib.hid (HG4.out.later hB5)
        clear hB5
        go_wp2_with fail
        refine (HL1.out _).mono ?_
        rintro e w6 ⟨rfl, hB6⟩
        have HB6 := Lib.hid (HB5.out.trans (hB6.mono HB5.out.size))
        have HG6 := Lib.hid (HG5.out.later hB6)
        clear hB6
        go_wp2_with fail
        go_roundw
        case rel => exact ⟨n + 1, by rw [HSN.out, List.append_assoc], by go_num, by omega, HG6, HW4, HB6⟩
        case measure => simp [intOf]; omega
      · have hp : (n : Int) % 2 = 1 := by omega
        have hadd := fun W => HADD.out n (by omega) W s
        have hsn : u ++ V (n + 1) f s = u ++ V n f s ++ Hy.letter s := by rw [V_snoc, if_neg hpar, List.append_assoc]
        have HSN := Lib.hid hsn
        clear hpar hsn
        go_wp2_with fail
        refine (H2.out _).mono ?_
        rintro e w5 ⟨rfl, hB5⟩
        have HB5 := Lib.hid (HB4.out.trans (hB5.mono HB4.out.size))
        have HG5 := Lib.hid (HG4.out.later hB5)
        clear hB5
        go_wp2_with fail
        refine (HL2.out _).mono ?_
        rintro e w6 ⟨rfl, hB6⟩
        have HB6 := Lib.hid (HB5.out.trans (hB6.mono HB5.out.size))
        have HG6 := Lib.hid (HG5.out.later hB6)
        clear hB6
        go_wp2_with fail
        go_roundw
        case rel => exact ⟨n + 1, by rw [HSN.out, List.append_assoc], by go_num, by omega, HG6, HW4, HB6⟩
        case measure => simp [intOf]; omega
    · obtain rfl : n = 2 * M := by omega
      clear hlt hn
      have HFIN := Lib.hid (show GQ w2 u7 (CW.map str) from by
        have h := HG2.out
        rwa [List.take_of_length_le (by rw [HLEN.out]; exact Nat.le_refl _)] at h)
      go_wp2_with fail
      go_returns
      exact ⟨_, rfl, HFIN.out, fun b hb => Nat.le_trans HB0.out.size (HW.out b hb), HB0.out.trans (HB2.out.mono HB0.out.size)⟩
end Go.Proofs.Ytdckpjagmbdkgaa
