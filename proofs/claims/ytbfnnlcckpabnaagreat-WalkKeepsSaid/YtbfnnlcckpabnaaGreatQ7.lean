/- The specification of layer 7: its search. -/
import Derived.Test.YtbfnnlcckpabnaaGreatQ6
import Derived.Deep.LoopGhost
import Derived.Deep.DeepCutAuto
namespace Go.Proofs.YtbfnnlcckpabnaaGreat
set_option linter.unusedSimpArgs false
set_option linter.unusedVariables false
open Go.RowKit
open Hy (Lets IsNF Eqv Le)

theorem reach7_step {o : Hy.Ord} {wall : Word → Int → Bool} {isT : Word → Bool} {things : Bool} {goal : Word} {fuel k : Nat} {P R : Places} {mst : Nat} (h : reach7 o wall isT things goal fuel k P mst = some R) (hk : k < P.length) :
    (things = false ∧ P[k].1 = goal ∧ R = P) ∨ (¬ (things = false ∧ P[k].1 = goal) ∧ ∃ n P3, reach7 o wall isT things goal n (k + 1) P3 (if things = true ∧ isT P[k].1 = true then min mst P[k].2.length else mst) = some R ∧
      ((P[k].2.length < (if things = true ∧ isT P[k].1 = true then min mst P[k].2.length else mst) ∧ dirs7 o wall P[k] 3 P = some P3) ∨ ((if things = true ∧ isT P[k].1 = true then min mst P[k].2.length else mst) ≤ P[k].2.length ∧ P = P3))) := by
  cases fuel with
  | zero => cases h
  | succ n =>
    unfold reach7 at h
    rw [List.getElem?_eq_getElem hk] at h
    simp only at h
    by_cases h1 : things = false ∧ P[k].1 = goal
    · rw [if_pos h1] at h
      cases h
      exact .inl ⟨h1.1, h1.2, rfl⟩
    · rw [if_neg h1] at h
      right
      refine ⟨h1, n, ?_⟩
      by_cases h2 : P[k].2.length < (if things = true ∧ isT P[k].1 = true then min mst P[k].2.length else mst)
      · rw [if_pos h2] at h
        cases hd : dirs7 o wall P[k] 3 P with
        | none => rw [hd] at h; cases h
        | some P' =>
          rw [hd] at h
          exact ⟨P', h, .inl ⟨h2, rfl⟩⟩
      · rw [if_neg h2] at h
        exact ⟨P, h, .inr ⟨by omega, rfl⟩⟩

theorem reach7_end {o : Hy.Ord} {wall : Word → Int → Bool} {isT : Word → Bool} {things : Bool} {goal : Word} {fuel : Nat} {P R : Places} {mst : Nat} (h : reach7 o wall isT things goal fuel P.length P mst = some R) : R = P := by
  cases fuel with
  | zero => cases h
  | succ n =>
    unfold reach7 at h
    rw [List.getElem?_eq_none (Nat.le_refl _)] at h
    cases h
    rfl

theorem dirs7_step {o : Hy.Ord} {wall : Word → Int → Bool} {p : Word × Word} {r : Nat} {P Q : Places} (h : dirs7 o wall p (r + 1) P = some Q) : P.length < 100000 ∧
    ((wall (Hy.nearOf p.1 (nf7 o (p.1 ++ Hy.letter (2 - r)))) ((2 - r : Nat) : Int) = true ∧ dirs7 o wall p r P = some Q) ∨
     (wall (Hy.nearOf p.1 (nf7 o (p.1 ++ Hy.letter (2 - r)))) ((2 - r : Nat) : Int) = false ∧
       ((P.any (fun q => q.1 == nf7 o (p.1 ++ Hy.letter (2 - r))) = true ∧ dirs7 o wall p r P = some Q) ∨
        (P.any (fun q => q.1 == nf7 o (p.1 ++ Hy.letter (2 - r))) = false ∧ dirs7 o wall p r (P ++ [(nf7 o (p.1 ++ Hy.letter (2 - r)), p.2 ++ Hy.letter (2 - r))]) = some Q)))) := by
  unfold dirs7 at h
  by_cases h1 : 100000 ≤ P.length
  · rw [if_pos h1] at h; cases h
  · rw [if_neg h1] at h
    refine ⟨by omega, ?_⟩
    cases hw : wall (Hy.nearOf p.1 (nf7 o (p.1 ++ Hy.letter (2 - r)))) ((2 - r : Nat) : Int) with
    | true =>
      rw [if_pos (.inl hw)] at h
      exact .inl ⟨rfl, h⟩
    | false =>
      right
      refine ⟨rfl, ?_⟩
      cases ha : P.any (fun q => q.1 == nf7 o (p.1 ++ Hy.letter (2 - r))) with
      | true =>
        rw [if_pos (.inr ha)] at h
        exact .inl ⟨rfl, h⟩
      | false =>
        rw [if_neg (by rw [hw, ha]; simp)] at h
        exact .inr ⟨rfl, h⟩

/-- What the search hands back. -/
def ReachPost (o : Hy.Ord) (R : Places) (w : World) (e : Ending) (w' : World) : Prop :=
  ∃ tb yb tv yv, e = .returned (.agg #[tv, yv]) ∧ QRow w' tb 1 tv R.length ((R.map (·.1)).map str) ∧ QRow w' yb 1 yv R.length ((R.map (·.2)).map str) ∧ GoodP o R ∧ R.length ≤ 100000 ∧ Below w.heap.size w w'

theorem RS.done {o : Hy.Ord} {w W : World} {rb tb yb : Nat} {tv yv u v : Value} {R : Places} (h : RS w W rb w.heap.size tb yb tv yv (R.map (·.1)) (R.map (·.2))) (hG : GoodP o R) (hl : R.length ≤ 100000) :
    ReachPost o R w (.returned (.agg #[tv, yv])) ((W.setCell ⟨w.heap.size, 0, none⟩ u).setCell ⟨w.heap.size, 1, none⟩ v) := by
  obtain ⟨d1, d2, d3, d4, d5, d6⟩ := h.d
  have ht := h.ht
  have hy := h.hy
  rw [List.length_map] at ht hy
  refine ⟨tb, yb, tv, yv, rfl, ht.of_heap ((Below.heap_setCell _ _ _ _ (by show tb ≠ w.heap.size; omega)).trans (Below.heap_setCell _ _ _ _ (by show tb ≠ w.heap.size; omega))) (by simp [World.setCell]),
    hy.of_heap ((Below.heap_setCell _ _ _ _ (by show yb ≠ w.heap.size; omega)).trans (Below.heap_setCell _ _ _ _ (by show yb ≠ w.heap.size; omega))) (by simp [World.setCell]), hG, hl, ?_⟩
  exact (h.below.setCell (p := ⟨w.heap.size, 0, none⟩) (Nat.le_refl _) _).setCell (p := ⟨w.heap.size, 1, none⟩) (Nat.le_refl _) _

set_option maxRecDepth 100000 in
set_option maxHeartbeats 8000000 in
theorem r07_reach {w : World} {mb : Nat} {o : Hy.Ord} (F : Hy.Fine o) (hS : Small o) {WL : WallList} {TL : ThingList} (h : Map7 w mb o WL TL) (hT : WL.length ≤ 1000) (hTT : TL.length ≤ 1000) {u nu goal : List UInt8} (hu : IsNF o u nu) (hul : Lets u) (hulen : u.length ≤ 60) (things : Bool)
    {fuel : Nat} {R : Places} (hR : reach7 o (blk7 WL) (fun t => (thingPlace t TL 0).2) things goal fuel 0 [(nu, [])] 10 = some R) :
    Calls Tryz.prog 61 #[.pointer (some ⟨mb, 0, none⟩), str u, str goal, .bool things] w (ReachPost o R w) := by
  have HMAP := Lib.hid (fun W (hW : Below w.heap.size w W) => h.below hW)
  have HW0 := Lib.hid (fun W => r03_Word_nf F hS hul (by omega) hu W)
  have HSTEP := Lib.hid (fun (t : List UInt8) (c : Nat) (hc : c < 3) (ht : Lets t) (htl : t.length ≤ 900) W => r03_Word_nf F hS (l := t ++ Hy.letter c) (Lets.app.2 ⟨ht, Hy.lets_letter hc⟩) (by simp [Hy.letter]; omega) (nf7_step F ht htl hc).1 W)
  have HBLK := Lib.hid (fun W (hW : Below w.heap.size w W) (t : List UInt8) (hnt : IsNF o t t) (ht : Lets t) (htl : t.length ≤ 900) (c : Nat) (hc : c < 3) => r07_blocked F hS (h.below hW) hT hnt ht htl hc (nf7_step F ht htl hc).1)
  have HLET := Lib.hid (fun (c : Nat) (hc : c < 3) W => (r07_letter c (by omega) W).mono (fun e w' h => And.intro h.1 (show Below W.heap.size W w' from h.2 ▸ (Below.refl _ _).alloc (Nat.le_refl _) _)))
  have HNU := Lib.hid (show GoodP o [(nu, [])] from fun q hq => by
    rw [List.mem_singleton.1 hq]
    exact ⟨(Hy.same_tile F hu.eqv).1.2 hul, hu.self, by have := hu.len; simp; omega, by simp⟩)
  have HR := Lib.hid hR
  have HFF := Lib.hid F
  generalize hisT : (fun t : Word => (thingPlace t TL 0).2) = isT at HR
  obtain ⟨zT, hzT⟩ : ∃ zT : Word → Nat, (fun t : Word => (thingPlace t TL 0).1) = zT := ⟨_, rfl⟩
  have HTH := Lib.hid (fun W v (hW : Pairs encT0 encT1 W v TL) (t : Word) => (show Calls Tryz.prog 42 #[v, str t] W fun e w' => e = .returned (.agg #[.int .i64 (zT t), .bool (isT t)]) ∧ Below W.heap.size W w' from
    (r07_thingAt hW (by omega) t).mono fun e w' hp => ⟨by rw [← hisT, ← hzT]; exact hp.1, hp.2⟩))
  clear h hu hul hR hisT hzT F
  unfold ordersV str at *
  go_enter Tryz.func61, Tryz.ntmps61
  go_upto_region 1 with fail
  obtain ⟨W0, hW0⟩ : ∃ W0, w.alloc (.cells #[.slice none 0 0, .slice none 0 0] 131) = W0 := ⟨_, rfl⟩
  have hb0 : W0.heap[w.heap.size]? = some (.cells #[.slice none 0 0, .slice none 0 0] 131 (0, 0)) := by rw [← hW0]; exact alloc_heap_new w _
  have hB0 : Below w.heap.size w W0 := by rw [← hW0]; exact (Below.refl _ _).alloc (Nat.le_refl _) _
  rw [hW0]
  clear hW0
  obtain ⟨vw, vt, hm, _, _⟩ := HMAP.out W0 hB0
  have m0 := cell_of_heap hm 0
  have m1 := cell_of_heap hm 1
  have m2 := cell_of_heap hm 2
  simp at m0 m1 m2
  have hbl : w.heap.size < W0.heap.size := (Array.getElem?_eq_some_iff.1 hb0).1
  have HB0 := Lib.hid hB0; have HBX := Lib.hid hb0
  clear hm hB0 hb0
  go_wp2_with fail
  refine (HW0.out _).mono ?_
  rintro e w1 ⟨rfl, hB1⟩
  have hx1 := (hB1.block _ hbl).trans HBX.out
  have HBX1 := Lib.hid hx1
  have hsl1 : w.heap.size < w1.heap.size := (Array.getElem?_eq_some_iff.1 hx1).1
  have HB1 := Lib.hid (HB0.out.trans (hB1.mono (by omega)))
  clear hB1 m0 m1 m2 HBX HB0 hbl hx1
  go_upto_region 3 with fail
  obtain ⟨s1, hs1⟩ : ∃ s, s = w1.heap.size := ⟨_, rfl⟩
  obtain ⟨W3, hW3⟩ : ∃ W3, (((w1.alloc (.cells #[.string ⟨nu.toArray⟩] 9)).alloc (.cells #[.string ⟨#[]⟩] 9)).alloc (.cells #[.slice (some ⟨w1.heap.size, 0, none⟩) 1 1, .slice (some ⟨w1.heap.size + 1, 0, none⟩) 1 1] 131)) = W3 := ⟨_, rfl⟩
  rw [hW3]
  have hRS : RS w W3 (s1 + 1 + 1) w.heap.size s1 (s1 + 1) (.slice (some ⟨s1, 0, none⟩) 1 1) (.slice (some ⟨s1 + 1, 0, none⟩) 1 1) [nu] [[]] := by
    have hB1 := HB1.out
    subst hs1
    have q1 : QRow (w1.alloc (.cells #[.string ⟨nu.toArray⟩] 9)) w1.heap.size 1 (.slice (some ⟨w1.heap.size, 0, none⟩) 1 1) 1 [str nu] := QRow.new w1 [str nu] 1 1 _ rfl (by unfold maxLen; omega)
    have q2 : QRow ((w1.alloc (.cells #[.string ⟨nu.toArray⟩] 9)).alloc (.cells #[.string ⟨#[]⟩] 9)) (w1.heap.size + 1) 1 (.slice (some ⟨w1.heap.size + 1, 0, none⟩) 1 1) 1 [str []] := by
      have := QRow.new (w1.alloc (.cells #[.string ⟨nu.toArray⟩] 9)) [str []] 1 1 9 rfl (by unfold maxLen; omega)
      rw [World.size_alloc] at this
      exact this
    have a1 : ∀ k, k < w1.heap.size → W3.heap[k]? = w1.heap[k]? := fun k hk => by
      rw [← hW3]
      exact (heap_alloc_lt _ _ (by simp; omega)).trans ((heap_alloc_lt _ _ (by simp; omega)).trans (heap_alloc_lt _ _ hk))
    have a4 : W3.heap[w1.heap.size + 1 + 1]? = some (.cells #[.slice (some ⟨w1.heap.size, 0, none⟩) 1 1, .slice (some ⟨w1.heap.size + 1, 0, none⟩) 1 1] 131 (0, 0)) := by
      have := alloc_heap_new ((w1.alloc (.cells #[.string ⟨nu.toArray⟩] 9)).alloc (.cells #[.string ⟨#[]⟩] 9)) (.cells #[.slice (some ⟨w1.heap.size, 0, none⟩) 1 1, .slice (some ⟨w1.heap.size + 1, 0, none⟩) 1 1] 131)
      rw [World.size_alloc, World.size_alloc, hW3] at this
      exact this
    have a5 : W3.heap.size = w1.heap.size + 3 := by rw [← hW3]; simp
    have hsz := hB1.size
    refine ⟨a4, (a1 _ hsl1).trans HBX1.out, q1.of_heap ?_ (by simp; omega), q2.of_heap ?_ (by simp; omega), by omega, by omega, ?_⟩
    · rw [← hW3]
      exact (heap_alloc_lt _ _ (by simp; omega)).trans (heap_alloc_lt _ _ (by simp))
    · rw [← hW3]
      exact heap_alloc_lt _ _ (by simp)
    · rw [← hW3]
      exact ((hB1.alloc hsz _).alloc (by simp; omega) _).alloc (by simp; omega) _
  rw [← hs1]
  have HRS := Lib.hid hRS
  have HSZ1 := Lib.hid (show w.heap.size < s1 from by rw [hs1]; exact hsl1)
  clear hRS hW3 hsl1 HBX1 HB1
  clear hs1
  go_wp2_with fail
  go_loopw [11, 12] (fun ms i wr => ∃ (k mst n : Nat) (P : Places) (tb yb : Nat) (tv yv : Value), k ≤ P.length ∧ i = .int .i64 k ∧ ms = .int .i64 mst ∧ mst ≤ 10 ∧ P.length ≤ 100000 ∧ Hid (GoodP o P) ∧ Hid (RS w wr (s1 + 1 + 1) w.heap.size tb yb tv yv (P.map (·.1)) (P.map (·.2))) ∧ Hid (reach7 o (blk7 WL) isT things goal n k P mst = some R)) (fun _ i _ => 100001 - (intOf i).toNat)
  case atStart => exact ⟨0, 10, fuel, [(nu, [])], s1, s1 + 1, _, _, Nat.zero_le _, rfl, rfl, by omega, by simp, HNU, HRS, HR⟩
  case round =>
    obtain ⟨k, mst, n, P, tb, yb, tv, yv, hk, rfl, rfl, hmst, hPl, HG, HS, HRR⟩ := hrel
    obtain ⟨of1, cap1, e1, ltb, ht⟩ := row_cell HS.out.ht
    obtain ⟨of2, cap2, e2, lyb, hy⟩ := row_cell HS.out.hy
    have hAl : (P.map (·.1)).length = P.length := List.length_map _
    have hBl : (P.map (·.2)).length = P.length := List.length_map _
    rw [hAl] at e1
    rw [hBl] at e2
    subst e1
    subst e2
    have HT := Lib.hid ht; have HY := Lib.hid hy
    have r0 := cell_of_heap HS.out.hr 0
    have r1 := cell_of_heap HS.out.hr 1
    have lrb := (Array.getElem?_eq_some_iff.1 HS.out.hr).1
    have lzb := (Array.getElem?_eq_some_iff.1 HS.out.hz).1
    have zf0 := free_of_heap HS.out.hz 0
    have zf1 := free_of_heap HS.out.hz 1
    have z0 := cell_of_heap HS.out.hz 0
    have z1 := cell_of_heap HS.out.hz 1
    simp at r0 r1 z0 z1
    clear ht hy hAl hBl
    by_cases hlt : k < P.length
    · have p1 : wr.cell? ⟨tb, of1 + k, none⟩ = some (.string ⟨P[k].1.toArray⟩) := by
        have := HT.out k (by simpa using hlt)
        simpa using this
      have p2 : wr.cell? ⟨yb, of2 + k, none⟩ = some (.string ⟨P[k].2.toArray⟩) := by
        have := HY.out k (by simpa using hlt)
        simpa using this
      have hst := reach7_step HRR.out hlt
      have hgp := HG.out P[k] (List.getElem_mem hlt)
      obtain ⟨p, hp⟩ : ∃ p, p = P[k] := ⟨_, rfl⟩
      rw [← hp] at p1 p2 hst hgp
      have HP := Lib.hid hp; have HST := Lib.hid hst; have HGP := Lib.hid hgp
      clear hp hst hgp
      have hcomp : ((⟨p.1.toArray⟩ : ByteArray) == ⟨goal.toArray⟩) = (p.1 == goal) := bytes_beq _ _
      go_upto_region 7 with fail
      go_cut [44] (fun s wx => s = .bool (!things && (p.1 == goal)) ∧ wr = wx)
      case first =>
        cases things with
        | true =>
          go_wp2_with fail
          go_meet
          case rel => exact ⟨rfl, rfl⟩
        | false =>
          by_cases heq : p.1 = goal
          · subst heq
            go_wp2_with fail
            go_meet
            case rel => exact ⟨by simp, rfl⟩
          · have b0 : (p.1 == goal) = false := by rw [beq_eq_false_iff_ne]; exact heq
            have b1 : ((⟨p.1.toArray⟩ : ByteArray) == ⟨goal.toArray⟩) = false := by rw [bytes_beq, beq_eq_false_iff_ne]; exact heq
            have b3 : ¬ ((⟨p.1.toArray⟩ : ByteArray) = ⟨goal.toArray⟩) := fun h => heq (by have := congrArg ByteArray.data h; simpa using this)
            clear hcomp
            go_wp2_with fail
            go_meet
            case rel => exact ⟨by rw [b0]; rfl, rfl⟩
      case rest =>
        obtain ⟨rfl, rfl⟩ := hcut
        clear hcomp
        rcases HST.out with ⟨g1, g2, g3⟩ | ⟨g1, n2, P3, hR2, hcase⟩
        · rw [← g2, g1, beq_self_eq_true]
          subst g3
          clear g2
          subst g1
          go_wp2_with fail
          refine bodyPost_ret (v := .agg #[.slice (some ⟨tb, of1, none⟩) R.length cap1, .slice (some ⟨yb, of2, none⟩) R.length cap2]) (by simp [results, Tryz.results61, go_sem, z0, z1, zf0, zf1, lzb]) rfl ?_
          exact RS.done HS.out HG.out hPl
        · have hb : (!things && (p.1 == goal)) = false := by
            cases things with
            | true => rfl
            | false =>
              show (p.1 == goal) = false
              rw [beq_eq_false_iff_ne]
              exact fun h => g1 ⟨rfl, h⟩
          rw [hb]
          clear hb
          have HR2 := Lib.hid hR2; have HCASE := Lib.hid hcase; have HG1 := Lib.hid g1
          clear hR2 hcase g1
          obtain ⟨vw, vt, hm, hp1, hp2⟩ := HMAP.out wr HS.out.below
          obtain ⟨pt, ct, rfl⟩ := pairs_slice hp2
          have m4 := cell_of_heap hm 4
          simp at m4
          have hmb : mb < wr.heap.size := (Array.getElem?_eq_some_iff.1 hm).1
          have HPT := Lib.hid hp2
          clear hm hp1 hp2
          go_upto_region 9 with fail
          go_cut [59] (fun s wx => s = .bool (things && isT p.1) ∧ Hid (Below wr.heap.size wr wx))
          case first =>
            cases things with
            | false =>
              refine wp_region_later (by kernel_rfl) (by kernel_rfl) ?_
              repeat (go_big_quiet_step (fail))
              refine wpQuiet_nil ?_
              rintro _ ⟨pl, rfl⟩
              go_wp2_with fail
              go_meet
              case rel => exact ⟨rfl, pl.h⟩
            | true =>
              have l0 := fun (y : Later wr) => ((bcell y.h).1 _ _ hmb).trans m4
              have l1 := fun (y : Later wr) => ((bcell y.h).1 _ _ lrb).trans r0
              have l2 := fun (y : Later wr) => ((bcell y.h).1 _ _ ltb).trans p1
              have hlt2 : (k : Int) < (P.length : Int) := by omega
              have HTC := Lib.hid (fun (y : Later wr) => HTH.out y.W _ (HPT.out.below y.h) p.1)
              have hfld := fun W => run_place_is (zT p.1) (isT p.1) W
              refine wp_region_later (by kernel_rfl) (by kernel_rfl) ?_
              repeat (go_big_quiet_step ((first | (go_at_call 42; refine (HTC.out _).mono ?_; rintro e w6 ⟨rfl, hB6⟩; exact ⟨rfl, ⟨w6, (Later.h _).trans (hB6.mono (Later.h _).size)⟩, rfl⟩))))
              refine wpQuiet_nil ?_
              rintro _ ⟨pl, rfl⟩
              go_wp2_with fail
              go_meet
              case rel => exact ⟨rfl, pl.h⟩
          case rest =>
            obtain ⟨rfl, HB4⟩ := hcut
            have hS4 := HS.out.later HB4.out
            have q2 := ((bcell HB4.out).1 _ _ lyb).trans p2
            have q1 := ((bcell HB4.out).1 _ _ lrb).trans r1
            have HS4 := Lib.hid hS4
            obtain ⟨m2, hm2⟩ : ∃ m2, m2 = (if things = true ∧ isT p.1 = true then min mst p.2.length else mst) := ⟨_, rfl⟩
            rw [← hm2] at HR2 HCASE
            have hbt : (things && isT p.1) = true ∧ m2 = min mst p.2.length ∨ (things && isT p.1) = false ∧ m2 = mst := by
              rw [hm2]
              cases things <;> cases isT p.1 <;> simp
            have hm10 : m2 ≤ 10 := by rcases hbt with ⟨_, h⟩ | ⟨_, h⟩ <;> omega
            have hp210 := HGP.out.2.2.2
            clear hS4 hm2 p1 p2 r0 r1 z0 z1 zf0 zf1 lrb lzb ltb lyb m4 hmb
            go_upto_if 59 with fail
            go_cut [11] (fun s wx => s = .int .i64 m2 ∧ wc = wx)
            case first =>
              rcases hbt with ⟨hb1, hb2⟩ | ⟨hb1, hb2⟩
              · rw [hb1]
                clear hb1
                have hb3 : (min (mst : Int) (p.2.length : Int)) = (m2 : Int) := by omega
                go_wp2_with fail
                go_meet
                case rel => exact ⟨congrArg (fun n : Nat => Value.int .i64 (n : Int)) hb2.symm, rfl⟩
              · rw [hb1]
                clear hb1
                subst hb2
                go_wp2_with fail
                go_meet
                case rel => exact ⟨rfl, rfl⟩
            case rest =>
              obtain ⟨rfl, rfl⟩ := hcut
              clear hbt q1 q2
              go_wp2_with fail
              go_loopw [13] (fun sv wr2 => ∃ (r : Nat) (P2 : Places) (tb yb : Nat) (tv yv : Value), r ≤ 3 ∧ sv = .int .i64 ((3 - r : Nat) : Int) ∧ P2.length ≤ 100000 ∧ Hid (GoodP o P2) ∧ Hid (P2[k]? = some p) ∧ Hid (RS w wr2 (s1 + 1 + 1) w.heap.size tb yb tv yv (P2.map (·.1)) (P2.map (·.2))) ∧ Hid ((p.2.length < m2 ∧ dirs7 o (blk7 WL) p r P2 = some P3) ∨ (m2 ≤ p.2.length ∧ P2 = P3))) (fun sv _ => 3 - (intOf sv).toNat)
              case atStart => exact ⟨3, P, tb, yb, _, _, Nat.le_refl _, rfl, hPl, HG, by rw [HP.out, List.getElem?_eq_getElem hlt]; exact rfl, HS4, HCASE.out⟩
              case round =>
                obtain ⟨r, P2, tb, yb, tv, yv, hr3, rfl, hP2l, HG2, HK, HS2, HD⟩ := hrel
                obtain ⟨of1, cap1, e1, ltb, ht⟩ := row_cell HS2.out.ht
                obtain ⟨of2, cap2, e2, lyb, hy⟩ := row_cell HS2.out.hy
                have hAl : (P2.map (·.1)).length = P2.length := List.length_map _
                have hBl : (P2.map (·.2)).length = P2.length := List.length_map _
                rw [hAl] at e1
                rw [hBl] at e2
                subst e1
                subst e2
                have HT2 := Lib.hid ht; have HY2 := Lib.hid hy
                have r0 := cell_of_heap HS2.out.hr 0
                have r1 := cell_of_heap HS2.out.hr 1
                have lrb := (Array.getElem?_eq_some_iff.1 HS2.out.hr).1
                simp at r0 r1
                obtain ⟨hkl, hkp⟩ := List.getElem?_eq_some_iff.1 HK.out
                have p1 : wr.cell? ⟨tb, of1 + k, none⟩ = some (.string ⟨p.1.toArray⟩) := by
                  have := HT2.out k (by simpa using hkl)
                  simpa [hkp] using this
                have p2 : wr.cell? ⟨yb, of2 + k, none⟩ = some (.string ⟨p.2.toArray⟩) := by
                  have := HY2.out k (by simpa using hkl)
                  simpa [hkp] using this
                have HKP := Lib.hid hkp
                clear ht hy hAl hBl hkp
                rcases HD.out with ⟨hlm, hd⟩ | ⟨hge, hPP⟩
                · cases r with
                  | zero =>
                    have hPP : P2 = P3 := by cases hd; rfl
                    subst hPP
                    clear hd
                    go_wp2_with fail
                    go_roundw
                    case rel => exact ⟨k + 1, m2, n2, P2, tb, yb, _, _, by omega, by go_num, rfl, hm10, hP2l, HG2, HS2, HR2⟩
                    case measure => simp [intOf]; omega
                  | succ r =>
                    obtain ⟨hP2s, hds⟩ := dirs7_step hd
                    obtain ⟨c, hc⟩ : ∃ c, c = 2 - r := ⟨_, rfl⟩
                    have hc3 : c < 3 := by omega
                    rw [show 3 - (r + 1) = c by omega]
                    rw [← hc] at hds
                    obtain ⟨g1, g2, g3, g4⟩ := HGP.out
                    have hblk := HBLK.out wr HS2.out.below p.1 g2 g1 (by omega) c hc3
                    have hstep := fun W => HSTEP.out p.1 c hc3 g1 (by omega) W
                    obtain ⟨nx, hnx⟩ : ∃ nx, nx = nf7 o (p.1 ++ Hy.letter c) := ⟨_, rfl⟩
                    rw [← hnx] at hblk hds hstep
                    have HBL := Lib.hid hblk; have HDS := Lib.hid hds; have HST2 := Lib.hid hstep; have HNX := Lib.hid hnx
                    have hrc : 3 - r = c + 1 := by omega
                    clear hblk hds hstep hnx hd g1 g2 g3 g4 hc
                    rcases HDS.out with ⟨hw, hd⟩ | ⟨hw, hd⟩
                    · rw [hw] at HBL
                      have HD2 := Lib.hid hd
                      clear hw hd
                      go_wp2_with fail
                      refine HBL.out.mono ?_
                      rintro e w5 ⟨rfl, hB5⟩
                      have HS5 := Lib.hid (HS2.out.later hB5)
                      clear hB5
                      go_wp2_with fail
                      go_roundw
                      case rel => exact ⟨r, P2, tb, yb, _, _, by omega, by rw [hrc]; go_num, hP2l, HG2, HK, HS5, .inl ⟨hlm, HD2.out⟩⟩
                      case measure => simp [intOf]; omega
                    · rw [hw] at HBL
                      have HD2 := Lib.hid hd
                      clear hw hd
                      go_wp2_with fail
                      refine HBL.out.mono ?_
                      rintro e w5 ⟨rfl, hB5⟩
                      have hS5 := HS2.out.later hB5
                      have HS5 := Lib.hid hS5
                      have u1 := ((bcell hB5).1 _ _ ltb).trans p1
                      have u0 := ((bcell hB5).1 _ _ lrb).trans r0
                      have lrb5 := (Array.getElem?_eq_some_iff.1 hS5.hr).1
                      have ltb5 := hS5.ht.lt
                      obtain ⟨vw, vt, hm, _, _⟩ := HMAP.out w5 hS5.below
                      have hmb : mb < w5.heap.size := (Array.getElem?_eq_some_iff.1 hm).1
                      have m0 := cell_of_heap hm 0
                      have m1 := cell_of_heap hm 1
                      have m2' := cell_of_heap hm 2
                      simp at m0 m1 m2'
                      have l0 := fun (y : Later w5) => ((bcell y.h).1 _ _ hmb).trans m0
                      have l1 := fun (y : Later w5) => ((bcell y.h).1 _ _ hmb).trans m1
                      have l2 := fun (y : Later w5) => ((bcell y.h).1 _ _ hmb).trans m2'
                      have l3 := fun (y : Later w5) => ((bcell y.h).1 _ _ lrb5).trans u0
                      have l4 := fun (y : Later w5) => ((bcell y.h).1 _ _ ltb5).trans u1
                      have hkl2 : (k : Int) < (P2.length : Int) := by omega
                      have hadd := fun W' => run_add_str (P := Tryz.prog) p.1 (Hy.letter c) (by have := HGP.out.2.2.1; simp [Hy.letter]; omega) W'
                      have HLT := Lib.hid (fun W => HLET.out c hc3 W)
                      clear hB5 hS5 hm m0 m1 m2' u0 u1 r0 r1 p1 p2
                      go_upto_region 15 with fail
                      refine wp_region_later (by kernel_rfl) (by kernel_rfl) ?_
                      repeat (go_big_quiet_step ((first
                        | (go_at_call 68; refine (HLT.out _).mono ?_; rintro e w6 ⟨rfl, hB6⟩; exact ⟨rfl, ⟨w6, (Later.h _).trans (hB6.mono (Later.h _).size)⟩, rfl⟩)
                        | (go_at_call 59; refine (HST2.out _).mono ?_; rintro e w6 ⟨rfl, hB6⟩; exact ⟨rfl, ⟨w6, (Later.h _).trans (hB6.mono (Later.h _).size)⟩, rfl⟩))))
                      refine wpQuiet_nil ?_
                      rintro _ ⟨pl, rfl⟩
                      have hS6 := HS5.out.later pl.h
                      obtain ⟨w6, hw6⟩ : ∃ w6, w6 = pl.W := ⟨_, rfl⟩
                      rw [← hw6] at hS6 ⊢
                      have HS6 := Lib.hid hS6
                      obtain ⟨of1', cap1', e1, ltb6, ht⟩ := row_cell hS6.ht
                      obtain ⟨of2', cap2', e2, lyb6, hy⟩ := row_cell hS6.hy
                      have hAl : (P2.map (·.1)).length = P2.length := List.length_map _
                      have hBl : (P2.map (·.2)).length = P2.length := List.length_map _
                      rw [hAl] at e1
                      rw [hBl] at e2
                      simp only [Value.slice.injEq, Option.some.injEq, Addr.mk.injEq, true_and, and_true] at e1 e2
                      obtain ⟨rfl, rfl⟩ := e1
                      obtain ⟨rfl, rfl⟩ := e2
                      have HT6 := Lib.hid ht; have HY6 := Lib.hid hy
                      have r0 := cell_of_heap hS6.hr 0
                      have r1 := cell_of_heap hS6.hr 1
                      have lrb6 := (Array.getElem?_eq_some_iff.1 hS6.hr).1
                      simp at r0 r1
                      clear l0 l1 l2 l3 l4 hw6 hS6 ht hy hAl hBl hadd lrb5 ltb5 hmb HLT
                      go_wp2_with fail
                      go_loop [15, 16] (fun mv kv => ∃ j : Nat, j ≤ P2.length ∧ kv = .int .i64 j ∧ mv = .bool ((P2.take j).any (fun q => q.1 == nx))) (fun _ kv => 100001 - (intOf kv).toNat)
                      case atStart => exact ⟨0, Nat.zero_le _, rfl, rfl⟩
                      case round =>
                        obtain ⟨j, hj, rfl, rfl⟩ := hrel
                        cases hany : (P2.take j).any (fun q => q.1 == nx) with
                        | true =>
                          have hfull : P2.any (fun q => q.1 == nx) = true := by
                            obtain ⟨q, hq, hqe⟩ := List.any_eq_true.1 hany
                            exact List.any_eq_true.2 ⟨q, List.mem_of_mem_take hq, hqe⟩
                          have hd3 : dirs7 o (blk7 WL) p r P2 = some P3 := by
                            rcases HD2.out with ⟨_, h⟩ | ⟨h, _⟩
                            · exact h
                            · rw [hfull] at h; cases h
                          have HD3 := Lib.hid hd3
                          clear hany hfull hd3
                          by_cases hjl : j < P2.length
                          · go_wp2_with fail
                            go_roundw
                            case rel => exact ⟨r, P2, tb, yb, _, _, by omega, by rw [hrc]; go_num, hP2l, HG2, HK, HS6, .inl ⟨hlm, HD3.out⟩⟩
                            case measure => simp [intOf]; omega
                          · go_wp2_with fail
                            go_roundw
                            case rel => exact ⟨r, P2, tb, yb, _, _, by omega, by rw [hrc]; go_num, hP2l, HG2, HK, HS6, .inl ⟨hlm, HD3.out⟩⟩
                            case measure => simp [intOf]; omega
                        | false =>
                          by_cases hjl : j < P2.length
                          · have pj : w6.cell? ⟨tb, of1 + j, none⟩ = some (.string ⟨P2[j].1.toArray⟩) := by
                              have := HT6.out j (by simpa using hjl)
                              simpa using this
                            have hcmp : ((⟨P2[j].1.toArray⟩ : ByteArray) == ⟨nx.toArray⟩) = (P2[j].1 == nx) := bytes_beq _ _
                            have htk : (P2.take (j + 1)).any (fun q => q.1 == nx) = (P2[j].1 == nx) := by
                              rw [List.take_succ_eq_append_getElem hjl, List.any_append, hany]
                              simp
                            have HTK := Lib.hid htk
                            clear htk hany
                            go_wp2_with fail
                            go_round
                            case rel => exact ⟨j + 1, by omega, by go_num, by rw [HTK.out]⟩
                            case measure => simp [intOf]; omega
                          · obtain rfl : j = P2.length := by omega
                            rw [List.take_length] at hany
                            have hd3 : dirs7 o (blk7 WL) p r (P2 ++ [(nx, p.2 ++ Hy.letter c)]) = some P3 := by
                              rcases HD2.out with ⟨h, _⟩ | ⟨_, h⟩
                              · rw [hany] at h; cases h
                              · exact h
                            have HD3 := Lib.hid hd3
                            clear hany hd3 hj hjl
                            go_wp2_with (at_builtin; refine wpList_queue1 w6 rowStr rfl _ _ rfl rfl (show QRow w6 tb 1 _ P2.length ((P2.map (·.1)).map str) from by have := HS6.out.ht; rw [List.length_map] at this; exact this) _ [str nx] rfl rfl (fun u hu => by simp at hu; subst hu; rfl) ?c3 ?_)
                            case c3 => omega
                            intro v7 w7 g7 hq7 ho7 hn7
                            have hq7' := hq7
                            obtain ⟨of7, cap7, rfl, _⟩ := hq7'
                            obtain ⟨d1, d2, d3, d4, d5, d6⟩ := HS6.out.d
                            have hr7 : w7.heap[s1 + 1 + 1]? = _ := (ho7.block (s1 + 1 + 1) (by rintro (h | h) <;> omega)).trans HS6.out.hr
                            have k7 := cell_of_heap hr7 0
                            have f7 := free_of_heap hr7 0
                            have lrb7 := (Array.getElem?_eq_some_iff.1 hr7).1
                            simp at k7
                            have HS7 := Lib.hid (RS.pushT (x := nx) HS6.out (by rw [List.length_map, List.map_map]; exact hq7) ho7 hn7)
                            clear hq7 ho7 hn7 hr7 r0 r1 d1 d2 d3 d4 d5 d6 ltb6 lyb6 lrb6
                            go_upto_region 23 with fail
                            obtain ⟨W7, hW7⟩ : ∃ W7, w7.setCell ⟨s1 + 1 + 1, 0, none⟩ (.slice (some ⟨g7, of7, none⟩) (P2.length + 1) cap7) = W7 := ⟨_, rfl⟩
                            rw [hW7] at HS7
                            rw [hW7]
                            clear hW7 k7 f7 lrb7
                            have hyk : (P2.map (·.2))[k]? = some p.2 := by rw [List.getElem?_map, HK.out]; rfl
                            have HROW := Lib.hid (fun (W : World) (hW : Below W7.heap.size W7 W) => And.intro (RS.way (HS7.out.later hW) hyk).1 (And.intro (RS.way (HS7.out.later hW) hyk).2 (HS7.out.later hW)))
                            clear hyk
                            obtain ⟨a1, a2, hS7⟩ := HROW.out W7 (Below.refl _ _)
                            have l7 := (Array.getElem?_eq_some_iff.1 hS7.hr).1
                            have l8 := hS7.hy.lt
                            clear hS7
                            have hadd := fun W' => run_add_str (P := Tryz.prog) p.2 (Hy.letter c) (by simp [Hy.letter]; omega) W'
                            have hkl2 : (k : Int) < (P2.length : Int) := by omega
                            have l1 := fun (y : Later W7) => (HROW.out y.W y.h).1
                            have l2 := fun (y : Later W7) => (HROW.out y.W y.h).2.1
                            clear a1 a2
                            refine wp_region_loads 8 11 (fun w' => ∃ y : Later W7, w' = y.W) ⟨⟨W7.drew, (Below.refl _ _).drew⟩, rfl⟩ (by kernel_rfl) (by kernel_rfl) ?_
                            simp only [List.take_succ_cons, List.take_zero, List.drop_succ_cons, List.drop_zero]
                            repeat (go_big_quiet_step (fail))
                            refine wpQuiet_nil ?_
                            clear l1 l2
                            refine wpG_step ?_
                            intro K2 hK2
                            go_wp2_with fail
                            refine (HLET.out c hc3 _).mono ?_
                            rintro e w8 ⟨rfl, hB8⟩
                            have HB8 := Lib.hid (below_undrew hB8)
                            clear hB8
                            go_wp2_with fail
                            refine ⟨⟨⟨w8, HB8.out⟩, rfl⟩, hK2 _ _ ?_⟩
                            clear hK2
                            refine wpG_step ?_
                            intro K3 hK3
                            go_wp2_with fail
                            refine ⟨⟨⟨w8, HB8.out⟩, rfl⟩, hK3 _ _ ?_⟩
                            clear hK3
                            refine wpG_step ?_
                            intro K4 hK4
                            go_wp2_with fail
                            refine ⟨⟨⟨_, HB8.out.alloc HB8.out.size _⟩, rfl⟩, hK4 _ _ ?_⟩
                            clear hK4
                            refine wpG_nil ?_
                            have hy8 := (HROW.out w8 HB8.out).2.2.hy
                            rw [List.length_map] at hy8
                            have HY8 := Lib.hid hy8
                            clear hy8
                            go_wp2_with (at_builtin; refine wpList_queue1 w8 rowStr rfl _ _ rfl rfl HY8.out _ [str (p.2 ++ Hy.letter c)] rfl rfl (fun u hu => by simp at hu; subst hu; rfl) ?c3 ?_)
                            case c3 => omega
                            intro v9 w9 g9 hq9 ho9 hn9
                            obtain ⟨of9, cap9, rfl, k9, f9, l9, hS9⟩ := RS.pushed (x := p.2 ++ Hy.letter c) (HROW.out w8 HB8.out).2.2 (by rw [List.length_map, List.map_map]; exact hq9) ho9 hn9
                            rw [List.length_map] at hS9
                            have HS9 := Lib.hid hS9
                            clear hq9 ho9 hn9 hS9
                            go_wp2_with fail
                            have HG3 := Lib.hid (GoodP.snoc HFF.out HG2.out (List.mem_of_getElem? HK.out) hc3 (by omega) : GoodP o (P2 ++ [(nf7 o (p.1 ++ Hy.letter c), p.2 ++ Hy.letter c)]))
                            rw [← HNX.out] at HG3
                            have HK9 := Lib.hid (show (P2 ++ [(nx, p.2 ++ Hy.letter c)])[k]? = some p from by rw [List.getElem?_append_left hkl]; exact HK.out)
                            have hl9 : (P2 ++ [(nx, p.2 ++ Hy.letter c)]).length ≤ 100000 := by
                              rw [List.length_append, List.length_singleton]
                              exact hP2s
                            have HS10 := Lib.hid (show RS w _ (s1 + 1 + 1) w.heap.size g7 g9 _ _ ((P2 ++ [(nx, p.2 ++ Hy.letter c)]).map (·.1)) ((P2 ++ [(nx, p.2 ++ Hy.letter c)]).map (·.2)) from by
                              rw [List.map_append, List.map_append]
                              exact HS9.out)
                            have HD9 := Lib.hid (show (p.2.length < m2 ∧ dirs7 o (blk7 WL) p r (P2 ++ [(nx, p.2 ++ Hy.letter c)]) = some P3) ∨ (m2 ≤ p.2.length ∧ P2 ++ [(nx, p.2 ++ Hy.letter c)] = P3) from .inl ⟨hlm, HD3.out⟩)
                            generalize P2 ++ [(nx, p.2 ++ Hy.letter c)] = P9 at HK9 hl9 HS10 HD9 HG3
                            go_roundw
                            case rel => exact ⟨r, P9, g7, g9, _, _, by omega, by rw [hrc]; go_num, hl9, HG3, HK9, HS10, HD9⟩
                            case measure => simp [intOf]; omega
                · subst hPP
                  go_wp2_with fail
                  all_goals
                    go_roundw
                    case rel => exact ⟨k + 1, m2, n2, P2, tb, yb, _, _, by omega, by go_num, rfl, hm10, hP2l, HG2, HS2, HR2⟩
                    case measure => simp [intOf]; omega
    · obtain rfl : k = P.length := by omega
      have hRP := reach7_end HRR.out
      subst hRP
      clear hlt hk HRR
      go_wp2_with fail
      refine bodyPost_ret (v := .agg #[.slice (some ⟨tb, of1, none⟩) R.length cap1, .slice (some ⟨yb, of2, none⟩) R.length cap2]) (by simp [results, Tryz.results61, go_sem, z0, z1, zf0, zf1, lzb]) rfl ?_
      exact RS.done HS.out HG.out hPl
end Go.Proofs.YtbfnnlcckpabnaaGreat
