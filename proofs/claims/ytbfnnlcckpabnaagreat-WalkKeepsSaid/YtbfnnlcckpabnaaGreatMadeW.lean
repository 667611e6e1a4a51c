/- The law's made. -/
import Derived.Test.YtbfnnlcckpabnaaGreatMade
namespace Go.Proofs.YtbfnnlcckpabnaaGreat
set_option linter.unusedSimpArgs false
set_option linter.unusedVariables false
open Go.RowKit
open Hy (Lets IsNF Eqv Le)

/-- string([]byte{a, b}) -/
theorem run_letters2 (W : World) (b n m : Nat) (h0 : W.cell? ⟨b, 0, none⟩ = some (.int .u8 n)) (h1 : W.cell? ⟨b, 1, none⟩ = some (.int .u8 m)) :
    Sem.run Tryz.prog (convert 42 9 (.slice (some ⟨b, 0, none⟩) 2 2)) W = .ok (str [UInt8.ofNat n, UInt8.ofNat m]) W := by
  rw [run_convert_bytes_string (e := 5) _ _ _ _ _ _ Tryz.underlying42 Tryz.underlying5 Tryz.underlying9]
  rw [run_bytesToString W _ _ _ [(n : Int), (m : Int)]]
  · rfl
  · exact run_loadCells_list W _ [.int .u8 n, .int .u8 m] (fun j v hj => by
      match j with
      | 0 => simp at hj; subst hj; simpa [Addr.add] using h0
      | 1 => simp at hj; subst hj; simpa [Addr.add] using h1
      | j + 2 => simp at hj)

theorem back_conv (W : World) (x : Nat) : Sem.run Tryz.prog (convert 42 9 (.slice (some ⟨W.heap.size, 0, none⟩) 2 2)) (W.alloc (.cells #[.int .u8 ((x : Int) % 3), .int .u8 ((x : Int) % 3)] 5)) =
    .ok (.string ⟨(Hy.letter (x % 3) ++ Hy.letter (x % 3)).toArray⟩) (W.alloc (.cells #[.int .u8 ((x : Int) % 3), .int .u8 ((x : Int) % 3)] 5)) := by
  have e : (x : Int) % 3 = ((x % 3 : Nat) : Int) := by omega
  rw [e]
  exact run_letters2 _ _ _ _ (by rw [cell_of_heap (alloc_heap_new W _)]; rfl) (by rw [cell_of_heap (alloc_heap_new W _)]; rfl)

/-- Whether walls and things are told from the front. -/
def fwdOf : List UInt8 → Bool
  | [] => false
  | c :: _ => c.toNat % 2 == 1

theorem put_none {fwd : Bool} {WL : WallList} {TL : ThingList} : putW fwd WL TL 0 = [] ∧ putT fwd WL TL 0 = [] := by
  unfold putW putT
  cases fwd <;> simp

theorem odd_beq (c : Nat) : ((((c : Int) % 2 == 1) : Bool)) = (c % 2 == 1) := by
  rw [Bool.eq_iff_iff]
  simp only [beq_iff_eq]
  omega

theorem at_back {n k : Nat} (h : k < n) : Value.int .i64 ((n : Int) - 1 - (k : Int)) = Value.int .i64 ((atOf false n k : Nat) : Int) := by
  unfold atOf
  congr 1
  simp
  omega

/-- A map was made with these walls and things. -/
def MadePost (o : Hy.Ord) (WL : WallList) (TL : ThingList) (w : World) (e : Ending) (w' : World) : Prop :=
  ∃ (mb wb tb : Nat) (WL' : WallList) (TL' : ThingList), e = .returned (.tuple #[.pointer (some ⟨mb, 0, none⟩), .bool true]) ∧ MRep w' o mb wb tb (WL'.map fun e => (e, true)) TL' ∧ WL'.Perm WL ∧ TL'.Perm TL ∧ w.heap.size ≤ mb ∧ w.heap.size ≤ wb ∧ w.heap.size ≤ tb ∧ Below w.heap.size w w'

set_option maxRecDepth 100000 in
set_option maxHeartbeats 8000000 in
theorem law_made {w : World} {o : Hy.Ord} {mb7 : Nat} {WL : WallList} {TL : ThingList} (ho : Hy.ordErr o.m01 o.m12 o.m02 = 0) (h7 : Map7 w mb7 o WL TL) (hW : ∀ p ∈ WL, FineWall o p) (hT : ∀ p ∈ TL, FineThing o p) (hnW : WL.Nodup) (hnT : (TL.map (·.1)).Nodup) (hlW : WL.length ≤ 100) (hlT : TL.length ≤ 200)
    {bv : Value} {B : List UInt8} (hb : BSlice w.heap.size w bv B) (hB : B.length ≤ 9223372036854775807) :
    Calls Tryz.prog 17 #[.pointer (some ⟨mb7, 0, none⟩), bv] w (MadePost o WL TL w) := by
  obtain ⟨F, hS⟩ := fine_small ho
  have HNEW := Lib.hid (fun W1 => walk_New o hS W1 ho)
  have HB := Lib.hid hb
  obtain ⟨bb, bc, rfl, _, _⟩ := hb
  obtain ⟨vw, vt, hm, hp1, hp2⟩ := h7
  obtain ⟨pw, cw, rfl⟩ := pairs_slice hp1
  obtain ⟨pt, ct, rfl⟩ := pairs_slice hp2
  have hmb : mb7 < w.heap.size := (Array.getElem?_eq_some_iff.1 hm).1
  have m0 := cell_of_heap hm 0
  have m1 := cell_of_heap hm 1
  have m2 := cell_of_heap hm 2
  have m3 := cell_of_heap hm 3
  have m4 := cell_of_heap hm 4
  simp at m0 m1 m2 m3 m4
  have HM7 := Lib.hid hm
  have HP1 := Lib.hid hp1; have HP2 := Lib.hid hp2
  have HFW := Lib.hid hW; have HFT := Lib.hid hT
  have HNW := Lib.hid hnW; have HNT := Lib.hid hnT
  have HF := Lib.hid F; have HS := Lib.hid hS
  clear hm hp1 hp2 hW hT hnW hnT F hS ho
  unfold ordersV NewMapPost at HNEW
  go_enter Tryz.func17, Tryz.ntmps17
  go_wp2_with fail
  refine (HNEW.out _).mono ?_
  rintro e w1 ⟨mb, wb, tb, rfl, hM1, hmb1, hwb1, htb1, hB1⟩
  have HB1 := Lib.hid hB1
  have HM1 := Lib.hid hM1
  have n3 := ((bcell hB1).1 mb7 3 hmb).trans m3
  have n4 := ((bcell hB1).1 mb7 4 hmb).trans m4
  clear hB1 hM1 HNEW m0 m1 m2
  go_wp2_with fail
  go_quiet (fail)
  have hnq : Below w1.heap.size w1 (w1.drewN nq) := below_drewN (Below.refl _ _) _
  have HB2 := Lib.hid (HB1.out.trans (hnq.mono HB1.out.size))
  have HM2 := Lib.hid (HM1.out.grow hnq)
  generalize w1.drewN nq = w2 at *
  clear hnq n3 n4
  go_upto_region 6 with fail
  obtain ⟨n, hn⟩ : ∃ n, n = WL.length + TL.length := ⟨_, rfl⟩
  have hni : (WL.length : Int) + (TL.length : Int) = (n : Int) := by omega
  rw [hni]
  have HN := Lib.hid hn
  clear hn hni
  go_loopw [9] (fun i wr => ∃ k : Nat, i = .int .i64 k ∧ k ≤ n ∧ Hid (Below w.heap.size w wr) ∧ Hid (MRep wr o mb wb tb ((putW (fwdOf B) WL TL k).map fun e => (e, true)) (putT (fwdOf B) WL TL k))) (fun i _ => n - (intOf i).toNat)
  case atStart => exact ⟨0, rfl, Nat.zero_le _, HB2, Lib.hid (by have h := HM2.out; rw [put_none.1, put_none.2]; exact h)⟩
  case round =>
    clear HB2 HM2 HB1 HM1
    obtain ⟨k, rfl, hk, HBr, HMr⟩ := hrel
    by_cases hlt : k < n
    · have hn3 : n ≤ 300 := by have := HN.out; omega
      have hat : atOf (fwdOf B) n k ≤ 300 := by unfold atOf; split <;> omega
      have hlt' : (k : Int) < (n : Int) := by omega
      go_upto_region 9 with fail
      go_cut [60] (fun s wx => s = .bool (fwdOf B) ∧ wr = wx)
      case first =>
        by_cases hBn : B = []
        case pos =>
          subst hBn
          go_wp2_with fail
          go_meet
          exact ⟨rfl, rfl⟩
        case neg =>
          obtain ⟨c, r, hBB⟩ := List.exists_cons_of_ne_nil hBn
          clear hBn
          obtain ⟨ba, bcap, hbe, _, hbc⟩ := HB.out.grow HBr.out
          simp only [Value.slice.injEq, true_and] at hbe
          obtain ⟨rfl, rfl⟩ := hbe
          have hBl : 0 < B.length := by rw [hBB]; simp
          obtain ⟨bg, boff, rfl, _, hb0⟩ := hbc 0 hBl
          have hbf : B[0] = c := by simp [hBB]
          rw [hbf, Nat.add_zero] at hb0
          have hfw : fwdOf B = (c.toNat % 2 == 1) := by rw [hBB]; rfl
          have HFD := Lib.hid hfw
          clear hbc hBB hbf hfw
          by_cases hf : c.toNat % 2 = 1
          · have hf' : (c.toNat : Int) % 2 = 1 := by omega
            go_wp2_with fail
            go_meet
            exact ⟨by rw [HFD.out]; first | (simp [hf]; done) | (rw [odd_beq]; done) | (simp [hf, odd_beq]; done), rfl⟩
          · have hf' : ¬ (c.toNat : Int) % 2 = 1 := by omega
            go_wp2_with fail
            go_meet
            exact ⟨by rw [HFD.out]; first | (simp [hf]; done) | (rw [odd_beq]; done) | (simp [hf, odd_beq]; done), rfl⟩
      case rest =>
        obtain ⟨rfl, rfl⟩ := hcut
        go_upto_if 60 with fail
        go_cut [10] (fun s wx => s = .int .i64 ((atOf (fwdOf B) n k : Nat) : Int) ∧ wr = wx)
        case first =>
          cases hq : fwdOf B with
          | true =>
            have HQ := Lib.hid hq
            clear hq
            go_wp2_with fail
            go_meet
            exact ⟨by rw [HQ.out]; rfl, rfl⟩
          | false =>
            have HQ := Lib.hid hq
            clear hq
            go_wp2_with fail
            go_meet
            exact ⟨by rw [HQ.out]; exact at_back hlt, rfl⟩
        case rest =>
          obtain ⟨rfl, rfl⟩ := hcut
          generalize hA : atOf (fwdOf B) n k = A at *
          have HA := Lib.hid hA
          clear hA
          go_upto_if 64 with fail
          go_cut [11] (fun s wx => ∃ x : Nat, s = .int .i64 x ∧ x < 256 ∧ wr = wx)
          case first =>
            by_cases hBn : B = []
            case pos =>
              subst hBn
              go_wp2_with fail
              go_meet
              exact ⟨0, rfl, by omega, rfl⟩
            case neg =>
              obtain ⟨ba, bcap, hbe, _, hbc⟩ := HB.out.grow HBr.out
              simp only [Value.slice.injEq, true_and] at hbe
              obtain ⟨rfl, rfl⟩ := hbe
              have hBl : 0 < B.length := List.length_pos_iff.2 hBn
              have hkm : k % B.length < B.length := Nat.mod_lt _ hBl
              obtain ⟨bg, boff, rfl, _, hb1⟩ := hbc (k % B.length) hkm
              obtain ⟨x, hx⟩ : ∃ x, x = (B[k % B.length]).toNat := ⟨_, rfl⟩
              have hx1 : x < 256 := by rw [hx]; exact UInt8.toNat_lt _
              rw [← hx] at hb1
              have hki : (k : Int) % (B.length : Int) < (B.length : Int) := Int.emod_lt_of_pos _ (by omega)
              have hki0 : (0 : Int) ≤ (k : Int) % (B.length : Int) := Int.emod_nonneg _ (by omega)
              have hki2 : ((k : Int) % (B.length : Int)).toNat = k % B.length := by rw [← Int.natCast_emod, Int.toNat_natCast]
              clear hbc hBn hx
              go_wp2_with fail
              go_meet
              exact ⟨x, rfl, hx1, rfl⟩
          case rest =>
            obtain ⟨x, rfl, hx1, rfl⟩ := hcut
            have hcv := back_conv wr x
            go_upto_region 15 with fail
            obtain ⟨W1, hW1⟩ : ∃ W1, wr.alloc (.cells #[.int .u8 ((x : Int) % 3), .int .u8 ((x : Int) % 3)] 5) = W1 := ⟨_, rfl⟩
            have hbr : Below wr.heap.size wr W1 := by rw [← hW1]; exact (Below.refl _ _).alloc (Nat.le_refl _) _
            have HB1 := Lib.hid (HBr.out.trans (hbr.mono HBr.out.size))
            have HM1 := Lib.hid (HMr.out.grow hbr)
            rw [hW1]
            have c3 := ((bcell HB1.out).1 mb7 3 hmb).trans m3
            have c4 := ((bcell HB1.out).1 mb7 4 hmb).trans m4
            clear hW1 hbr hcv HMr HBr
            have hAn : A < n := by rw [← HA.out]; unfold atOf; split <;> omega
            by_cases hAW : A < WL.length
            case pos =>
              have hAi : (A : Int) < (WL.length : Int) := by omega
              obtain ⟨bw, cw2, hwe, hwc⟩ := HP1.out
              simp only [Value.slice.injEq, true_and] at hwe
              obtain ⟨rfl, rfl⟩ := hwe
              obtain ⟨g, off, rfl, hgl, hg0, hg1⟩ := hwc A hAW
              have d0 := ((bcell HB1.out).1 g (off + A * 2) hgl).trans hg0
              have d1 := ((bcell HB1.out).1 g (off + A * 2 + 1) hgl).trans hg1
              obtain ⟨t, mm, hp⟩ : ∃ t mm, (t, mm) = WL[A] := ⟨_, _, rfl⟩
              have HPE := Lib.hid hp
              rw [← hp] at d0 d1
              simp only [encW0, encW1, str] at d0 d1
              clear hg0 hg1 hwc hp
              go_upto_region 17 with fail
              obtain ⟨W2, hW2⟩ : ∃ W2, W1.alloc (.cells #[.string ⟨t.toArray⟩, .int .i64 mm] 83) = W2 := ⟨_, rfl⟩
              have hb2 : Below W1.heap.size W1 W2 := by rw [← hW2]; exact (Below.refl _ _).alloc (Nat.le_refl _) _
              have HB2 := Lib.hid (HB1.out.trans (hb2.mono HB1.out.size))
              have HM2 := Lib.hid (HM1.out.grow hb2)
              have q2 : W2.heap[W1.heap.size]? = some (.cells #[.string ⟨t.toArray⟩, .int .i64 mm] 83 (0, 0)) := by rw [← hW2]; exact alloc_heap_new W1 _
              have hl2 : W1.heap.size < W2.heap.size := (Array.getElem?_eq_some_iff.1 q2).1
              have e0 := cell_of_heap q2 0
              have e1 := cell_of_heap q2 1
              simp at e0 e1
              have HQ2 := Lib.hid q2
              rw [hW2]
              clear hW2 hb2 q2 c3 c4 d0 d1
              have hfw := HFW.out (t, mm) (by rw [HPE.out]; exact List.getElem_mem _)
              obtain ⟨hz, _, m, hmm, hm3, _⟩ := id hfw
              simp only at hz hmm
              subst hmm
              have htl := (Hy.wordErr_letters hz).2
              have HFP := Lib.hid hfw
              clear hz hfw
              obtain ⟨uu, huu⟩ : ∃ uu, uu = (if x % 2 = 1 ∧ t.length < 60 then t ++ Hy.letter m else t) := ⟨_, rfl⟩
              have HUU := Lib.hid huu
              have hul : uu.length ≤ 60 := by
                rw [huu]
                split
                · simp [Hy.letter]; omega
                · exact htl
              clear huu
              go_upto_region 18 with fail
              go_cut [104] (fun s wx => s = .bool (decide (x % 2 = 1 ∧ t.length < 60)) ∧ W2 = wx)
              case first =>
                by_cases h1 : x % 2 = 1
                · have h1' : (x : Int) % 2 = 1 := by omega
                  by_cases h2 : t.length < 60
                  · have h2' : (t.length : Int) < 60 := by omega
                    go_wp2_with fail
                    go_meet
                    exact ⟨by rw [decide_eq_true (And.intro h1 h2)], rfl⟩
                  · have h2' : ¬ (t.length : Int) < 60 := by omega
                    go_wp2_with fail
                    go_meet
                    exact ⟨by rw [decide_eq_false (fun h => h2 h.2)], rfl⟩
                · have h1' : ¬ (x : Int) % 2 = 1 := by omega
                  go_wp2_with fail
                  go_meet
                  exact ⟨by rw [decide_eq_false (fun h => h1 h.1)], rfl⟩
              case rest =>
                obtain ⟨rfl, rfl⟩ := hcut
                go_upto_if 104 with fail
                go_cut [14] (fun s wx => s = .string ⟨uu.toArray⟩ ∧ Hid (Below W2.heap.size W2 wx))
                case first =>
                  by_cases h1 : x % 2 = 1 ∧ t.length < 60
                  · rw [decide_eq_true h1]
                    have HE : Hid (uu = t ++ Hy.letter m) := by rw [HUU.out, if_pos h1]; exact rfl
                    have hconv := run_letter (W2.alloc (.cells #[.int .u8 m] 5)) W2.heap.size m (by rw [cell_of_heap (alloc_heap_new W2 _)]; rfl)
                    have hcm : IntKind.u8.wrap (m : Int) = (m : Int) := by
                      match m, hm3 with
                      | 0, _ => rfl
                      | 1, _ => rfl
                      | 2, _ => rfl
                    unfold str at hconv
                    have hadd := fun W' => run_add_str (P := Tryz.prog) t (Hy.letter m) (by simp [Hy.letter]; omega) W'
                    clear h1
                    go_wp2_with fail
                    go_meet
                    exact ⟨by rw [HE.out]; exact congrArg Value.string (bytes_add t (Hy.letter m)), Lib.hid ((Below.refl _ _).alloc (Nat.le_refl _) _)⟩
                  · rw [decide_eq_false h1]
                    have HE : Hid (uu = t) := by rw [HUU.out, if_neg h1]; exact rfl
                    clear h1
                    go_wp2_with fail
                    go_meet
                    exact ⟨by rw [HE.out], Lib.hid (Below.refl _ _)⟩
                case rest =>
                  obtain ⟨rfl, hB3⟩ := hcut
                  have HB3 := Lib.hid (HB2.out.trans (hB3.out.mono HB2.out.size))
                  have HM3 := Lib.hid (HM2.out.grow hB3.out)
                  have e0 := ((bcell hB3.out).1 _ 0 hl2).trans e0
                  have e1 := ((bcell hB3.out).1 _ 1 hl2).trans e1
                  have hl3 := Nat.lt_of_lt_of_le hl2 hB3.out.size
                  clear hB3 HM2 HB2
                  clear e0
                  go_upto_if 115 with fail
                  go_cut [14] (fun s wx => s = .string ⟨(backs x uu).toArray⟩ ∧ wc = wx)
                  case first =>
                    by_cases h1 : uu.length + 2 ≤ 60
                    · have h1' : (uu.length : Int) + 2 ≤ 60 := by omega
                      have HE : Hid (backs x uu = uu ++ (Hy.letter (x % 3) ++ Hy.letter (x % 3))) := by unfold backs; rw [if_pos h1]; exact rfl
                      have hadd := fun W' => run_add_str (P := Tryz.prog) uu (Hy.letter (x % 3) ++ Hy.letter (x % 3)) (by simp [Hy.letter]; omega) W'
                      clear h1
                      go_wp2_with fail
                      go_meet
                      exact ⟨by rw [HE.out], rfl⟩
                    · have h1' : ¬ (uu.length : Int) + 2 ≤ 60 := by omega
                      have HE : Hid (backs x uu = uu) := by unfold backs; rw [if_neg h1]; exact rfl
                      clear h1
                      go_wp2_with fail
                      go_meet
                      exact ⟨by rw [HE.out], rfl⟩
                  case rest =>
                    obtain ⟨rfl, rfl⟩ := hcut
                    have hput := put_wall (fwd := fwdOf B) (WL := WL) (TL := TL) HNW.out (k := k) (by have := HN.out; omega) (by rw [← HN.out, HA.out]; exact hAW)
                    have hsp : backs x uu = spelled x m t := by rw [HUU.out]; rfl
                    have hsl : (spelled x m t).length ≤ 140737488355328 := by
                      have := (spelled_ok (o := o) x (show m < 3 by omega) (show Lets t from lets_of_err HFP.out.1) htl).2.2
                      omega
                    rw [hsp]
                    have hwa : wallA o ((putW (fwdOf B) WL TL k).map fun e => (e, true)) (spelled x m t) (m : Int) true = (0, (putW (fwdOf B) WL TL (k + 1)).map fun e => (e, true)) := by
                      have h1 := wall_more HF.out HFP.out x (P := putW (fwdOf B) WL TL k) (by have := hput.2.1; simp only [← HN.out, HA.out] at this; rw [HPE.out]; exact this) (by have := hput.2.2.2; omega)
                      have h2 : putW (fwdOf B) WL TL (k + 1) = putW (fwdOf B) WL TL k ++ [(t, (m : Int))] := by
                        have := hput.1; simp only [← HN.out, HA.out] at this; rw [HPE.out]; exact this
                      rw [h2]
                      exact h1
                    have HPT := Lib.hid hput.2.2.1
                    have HCALL := Lib.hid (walk_Wall_any HF.out HM3.out HS.out (spelled x m t) hsl (m : Int) true)
                    rw [hwa] at HCALL
                    simp only [encEdge, str] at HCALL
                    clear hput hsp hsl hwa
                    generalize spelled x m t = sp at *
                    go_wp2_with fail
                    refine HCALL.out.mono ?_
                    rintro e w4 ⟨rfl, hM4, hO4⟩
                    have HB4 := Lib.hid (HB3.out.trans (hO4.below (fun k hk => by
                      have := HB3.out.size
                      rcases hk with rfl | hk <;> omega)))
                    have HM4 : Hid (MRep w4 o mb wb tb ((putW (fwdOf B) WL TL (k + 1)).map fun e => (e, true)) (putT (fwdOf B) WL TL (k + 1))) := Lib.hid (by rw [HPT.out]; exact hM4)
                    clear hM4 hO4 HCALL HPT
                    go_wp2_with fail
                    go_roundw
                    case rel => exact ⟨k + 1, by go_num, by omega, HB4, HM4⟩
                    case measure => simp [intOf]; omega
            case neg =>
              have hTl : A - WL.length < TL.length := by have := HN.out; omega
              have hAi : ¬ (A : Int) < (WL.length : Int) := by omega
              obtain ⟨bt, ct2, hte, htc⟩ := HP2.out
              simp only [Value.slice.injEq, true_and] at hte
              obtain ⟨rfl, rfl⟩ := hte
              obtain ⟨g, off, rfl, hgl, hg0, hg1⟩ := htc (A - WL.length) hTl
              have hgW := Nat.lt_of_lt_of_le hgl HB1.out.size
              have hmW := Nat.lt_of_lt_of_le hmb HB1.out.size
              have d0 := ((bcell HB1.out).1 g (off + (A - WL.length) * 2) hgl).trans hg0
              have d1 := ((bcell HB1.out).1 g (off + (A - WL.length) * 2 + 1) hgl).trans hg1
              obtain ⟨t, mm, hp⟩ : ∃ t mm, (t, mm) = TL[A - WL.length] := ⟨_, _, rfl⟩
              have HPE := Lib.hid hp
              rw [← hp] at d0 d1
              simp only [encT0, encT1, str] at d0 d1
              have hi4 : IntKind.i64.wrap ((A : Int) - (WL.length : Int)) = ((A - WL.length : Nat) : Int) := by rw [IntWalk.i64_in _ (by omega)]; omega
              have hi2 : ((A - WL.length : Nat) : Int) < (TL.length : Int) := by omega
              have hi3 : (0 : Int) ≤ ((A - WL.length : Nat) : Int) := by omega
              have HI := Lib.hid (rfl : A - WL.length = A - WL.length)
              clear hg0 hg1 htc hp
              go_upto_region 24 with fail
              generalize hIe : A - WL.length = I at *
              have HIE := Lib.hid hIe
              clear hIe HI
              go_cut [15] (fun s wx => s = .pointer (some ⟨W1.heap.size, 0, none⟩) ∧ Hid (wx.heap[W1.heap.size]? = some (.cells #[.string ⟨t.toArray⟩, .string ⟨mm.toArray⟩] 85 (0, 0))) ∧ Hid (Below W1.heap.size W1 wx))
              case first =>
                go_region_held3 (fun w' => w'.cell? ⟨mb7, 3, none⟩ = some (.slice pw WL.length cw) ∧ w'.cell? ⟨mb7, 4, none⟩ = some (.slice (some ⟨g, off, none⟩) TL.length ct) ∧ w'.cell? ⟨g, off + I * 2, none⟩ = some (.string ⟨t.toArray⟩) ∧ w'.cell? ⟨g, off + I * 2 + 1, none⟩ = some (.string ⟨mm.toArray⟩)) (go_keep) ((first | fail))
                all_goals go_wp2_with fail
                all_goals go_meet
                all_goals exact ⟨rfl, Lib.hid (alloc_heap_new W1 _), Lib.hid (((Below.refl _ _).alloc (Nat.le_refl _) _).drew)⟩
              case rest =>
                obtain ⟨rfl, hq2, hb2⟩ := hcut
                have HB2 := Lib.hid (HB1.out.trans (hb2.out.mono HB1.out.size))
                have HM2 := Lib.hid (HM1.out.grow hb2.out)
                have e0 := cell_of_heap hq2.out 0
                have e1 := cell_of_heap hq2.out 1
                simp at e0 e1
                have hft := HFT.out (t, mm) (by rw [HPE.out]; exact List.getElem_mem _)
                obtain ⟨hz, _, _, htt⟩ := id hft
                simp only at hz htt
                have htl := (Hy.wordErr_letters hz).2
                have hml : mm.length ≤ 20 := by
                  unfold Hy.isThing at htt
                  simp only [Bool.and_eq_true, decide_eq_true_eq] at htt
                  exact htt.2
                have HFP := Lib.hid hft
                clear hz hft htt hq2 hb2 d0 d1 c3 c4 hi4
                go_upto_if 144 with fail
                go_cut [16] (fun s wx => s = .string ⟨(backs x t).toArray⟩ ∧ wc = wx)
                case first =>
                  by_cases h1 : t.length + 2 ≤ 60
                  · have h1' : (t.length : Int) + 2 ≤ 60 := by omega
                    have HE : Hid (backs x t = t ++ (Hy.letter (x % 3) ++ Hy.letter (x % 3))) := by unfold backs; rw [if_pos h1]; exact rfl
                    have hadd := fun W' => run_add_str (P := Tryz.prog) t (Hy.letter (x % 3) ++ Hy.letter (x % 3)) (by simp [Hy.letter]; omega) W'
                    clear h1
                    go_wp2_with fail
                    go_meet
                    exact ⟨by rw [HE.out], rfl⟩
                  · have h1' : ¬ (t.length : Int) + 2 ≤ 60 := by omega
                    have HE : Hid (backs x t = t) := by unfold backs; rw [if_neg h1]; exact rfl
                    clear h1
                    go_wp2_with fail
                    go_meet
                    exact ⟨by rw [HE.out], rfl⟩
                case rest =>
                  obtain ⟨rfl, rfl⟩ := hcut
                  have hIT : I < TL.length := by omega
                  have hput := put_thing (fwd := fwdOf B) (WL := WL) (TL := TL) HNT.out (k := k) (by have := HN.out; omega) (by rw [← HN.out, HA.out]; exact hAW) (by rw [← HN.out, HA.out, HIE.out]; exact hTl)
                  simp only [← HN.out, HA.out, HIE.out] at hput
                  rw [← HPE.out] at hput
                  have hsl : (backs x t).length ≤ 140737488355328 := by
                    have := (backs_ok (o := o) x (show Lets t from lets_of_err HFP.out.1) htl).2.2
                    omega
                  have hwa : thingA o (putT (fwdOf B) WL TL k) (backs x t) mm = (0, putT (fwdOf B) WL TL (k + 1)) := by
                    rw [hput.1]
                    exact thing_more HF.out HFP.out x (P := putT (fwdOf B) WL TL k) hput.2.1 (by have := hput.2.2.2; omega)
                  have HPT := Lib.hid hput.2.2.1
                  have HCALL := Lib.hid (walk_Put_any HF.out HM2.out HS.out (backs x t) mm hsl (by omega))
                  rw [hwa] at HCALL
                  simp only [str] at HCALL
                  clear hput hsl hwa
                  generalize backs x t = sp at *
                  go_wp2_with fail
                  refine HCALL.out.mono ?_
                  rintro e w4 ⟨rfl, hM4, hO4⟩
                  have HB4 := Lib.hid (HB2.out.trans (hO4.below (fun k hk => by
                    have := HB2.out.size
                    rcases hk with rfl | hk <;> omega)))
                  have HM4 : Hid (MRep w4 o mb wb tb ((putW (fwdOf B) WL TL (k + 1)).map fun e => (e, true)) (putT (fwdOf B) WL TL (k + 1))) := Lib.hid (by rw [HPT.out]; exact hM4)
                  clear hM4 hO4 HCALL HPT
                  go_wp2_with fail
                  go_roundw
                  case rel => exact ⟨k + 1, by go_num, by omega, HB4, HM4⟩
                  case measure => simp [intOf]; omega
    · obtain rfl : k = n := by omega
      clear hlt hk
      go_wp2_with fail
      go_ret2
      obtain ⟨e1, e2⟩ := put_all (fwdOf B) WL TL
      rw [← HN.out] at e1 e2
      exact ⟨mb, wb, tb, _, _, rfl, HMr.out, e1, e2, hmb1, hwb1, htb1, HBr.out⟩
end Go.Proofs.YtbfnnlcckpabnaaGreat
