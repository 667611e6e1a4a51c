/- walk.Go. -/
import Derived.Test.YtbfnnlcckpabnaaWk5
namespace Go.Proofs.Ytbfnnlcckpabnaa
set_option linter.unusedSimpArgs false
set_option linter.unusedVariables false
open Go.RowKit

/-- Is there a wall? -/
def wallIn (W : Walls) (t : List UInt8) (m : Int) : Bool := (mlook (t, m) W).getD false

theorem wall_value (W : Walls) (s : List UInt8 × Int) : (((mlook s W).map Value.bool).getD (.bool false)) = .bool (wallIn W s.1 s.2) := by
  unfold wallIn
  cases mlook s W <;> rfl

theorem extract_take (l : List UInt8) (n : Nat) : (⟨l.toArray⟩ : ByteArray).extract 0 n = ⟨(l.take n).toArray⟩ := by
  apply ByteArray.ext
  simp

theorem look_edge {w : World} {o : Hy.Ord} {mb wb tb : Nat} {W : Walls} {T : Things} (h : MRep w o mb wb tb W T) (t : List UInt8) (m : Int) :
    (Instr.lookup 49 (.map (some wb)) (.agg #[.string ⟨t.toArray⟩, .int .i64 m]) false).run Try.prog w = .ok (.bool (wallIn W t m)) w := by
  have := h.walls.look keys_edge Try.underlying49 (t, m) (zero_bool w) false
  simp only [Bool.false_eq_true, if_false, wall_value] at this
  exact this

theorem run_index_str (l : List UInt8) (k : Nat) (c : UInt8) (h : l[k]? = some c) (w : World) : (Instr.index 9 (.string ⟨l.toArray⟩) (.int .i64 k)).run Try.prog w = .ok (.int .u8 c.toNat) w := by
  have hb : (⟨l.toArray⟩ : ByteArray)[k]? = some c := by
    obtain ⟨hk, rfl⟩ := List.getElem?_eq_some_iff.1 h
    have hk' : k < (⟨l.toArray⟩ : ByteArray).size := by
      show k < l.toArray.size
      simpa using hk
    rw [getElem?_pos (⟨l.toArray⟩ : ByteArray) k hk']
    rfl
  simp [Instr.index, Sem.run_bind, run_underlying Try.underlying9, Result.andThen, asIntOf, hb]

set_option maxRecDepth 100000 in
set_option maxHeartbeats 2000000 in
theorem walk_Go {w : World} {o : Hy.Ord} {mb wb tb : Nat} {W : Walls} {T : Things} (h : MRep w o mb wb tb W T) (ho : Small o) (tile word : List UInt8) (fuel : Nat) (nf nw : List UInt8)
    (hz : Hy.wordsErr [tile, word] = 0) (hnf : Hy.norm o fuel tile = some nf) (hnw : Hy.norm o fuel word = some nw) (p : List UInt8 × Nat) (hp : Hy.goSteps o fuel (wallIn W) nf word word.length nf = some p) :
    Calls Try.prog 15 #[.pointer (some ⟨mb, 0, none⟩), str tile, str word] w fun e w' => e = .returned (.tuple #[str p.1, .int .i64 p.2, .int .i64 0]) ∧ Below w.heap.size w w' := by
  have hlt : tile.length ≤ 60 := (Hy.wordErr_letters (Hy.wordsErr_zero hz tile (by simp))).2
  have hlw : word.length ≤ 60 := (Hy.wordErr_letters (Hy.wordsErr_zero hz word (by simp))).2
  have hlet := (Hy.wordErr_letters (Hy.wordsErr_zero hz word (by simp))).1
  have HCALL := Lib.hid (fun W' (hb : MRep W' o mb wb tb W T) sv hs => walk_normals hb ho sv [tile, word] hs (by simp) (by simp) (by simp; omega) fuel [nf, nw] rfl (by
    intro k hk _
    simp at hk
    obtain rfl | rfl : k = 0 ∨ k = 1 := by omega
    · exact hnf
    · exact hnw))
  have HGROW := Lib.hid (fun W' (hb : Below w.heap.size w W') => h.grow hb)
  have HTO := Lib.hid (fun W' (hb : MRep W' o mb wb tb W T) v hw2 nx hnx => walk_to hb ho nf v hw2 fuel nx hnx)
  have HSIDE := Lib.hid (fun a b m W' => walk_side a b m W')
  have HLET := Lib.hid hlet; clear hlet
  have HZ := Lib.hid hz; clear hz
  have HP := Lib.hid hp; clear hp
  clear h hnf hnw hlt
  unfold str at *
  go_enter Try.func15, Try.ntmps15
  go_wp2_with fail
  refine (HCALL.out _ (HGROW.out _ ((Below.refl _ _).alloc (Nat.le_refl _) _)) _ ⟨w.heap.size, 2, rfl, by simp, ?_⟩).mono ?_
  · intro k hk
    simp at hk
    obtain rfl | rfl : k = 0 ∨ k = 1 := by omega
    · simp [str]
    · simp [str]
  rintro e w1 ⟨hB, hb⟩
  rw [if_pos HZ.out] at hb
  obtain ⟨v, rfl, g, cap, rfl, hg, hc⟩ := hb
  clear HCALL
  have hB1 : Below w.heap.size w w1 := ((Below.refl _ _).alloc (Nat.le_refl _) _).trans (hB.mono (by simp))
  have hcell := hc 0 (by simp)
  simp only [List.getElem_cons_zero, List.length_cons, List.length_nil] at hcell ⊢
  have HB1 := Lib.hid hB1; clear hB1 hB hc
  unfold str at hcell
  go_wp2_with fail
  go_quiet (fail)
  have hB2 : Below w.heap.size w (w1.drewN nq) := below_drewN HB1.out _
  obtain ⟨w2, hw2⟩ : ∃ w2, w1.drewN nq = w2 := ⟨_, rfl⟩
  rw [hw2] at hB2 ⊢
  have HB2 := Lib.hid hB2; clear hB2 hw2 hcell HB1 hg
  go_wp2_with fail
  go_loopw [12, 34] (fun av i wr => ∃ (r : Nat) (x : List UInt8), r ≤ word.length ∧ i = .int .i64 ((word.length - r : Nat) : Int) ∧ av = .string ⟨x.toArray⟩ ∧ Hid (Hy.goSteps o fuel (wallIn W) nf word r x = some p) ∧ Hid (Below w.heap.size w wr)) (fun _ i _ => word.length - (intOf i).toNat)
  case atStart => exact ⟨word.length, nf, Nat.le_refl _, by simp, rfl, HP.out, HB2.out⟩
  case round =>
    obtain ⟨r, x, hr, rfl, rfl, HS, HBr⟩ := hrel
    cases r with
    | zero =>
      have hs := HS.out
      unfold Hy.goSteps at hs
      cases hs
      have H0 := Lib.hid (Nat.sub_zero word.length)
      go_wp2_with fail
      go_ret3
      exact ⟨rfl, HBr.out⟩
    | succ r =>
      obtain ⟨hw2, nx, c, hn, hcc, hcase⟩ := Hy.goSteps_succ HS.out
      obtain ⟨k, hk⟩ : ∃ k, k = word.length - (r + 1) := ⟨_, rfl⟩
      have hkl : k < word.length := by omega
      have hk1 : word.length - r = k + 1 := by omega
      rw [← hk] at hcc hcase ⊢
      rw [hk1] at hn hw2
      have HK := Lib.hid hk; clear hk
      have HK1 := Lib.hid hk1; clear hk1
      have hM := HGROW.out wr HBr.out
      have cw : wr.cell? ⟨mb, 4, none⟩ = some (.map (some wb)) := cell_of_heap hM.cells 4
      have hto := HTO.out wr hM (word.take (k + 1)) hw2 nx hn
      have HTO2 := Lib.hid hto; clear hto
      have HM := Lib.hid hM; clear hM
      have HCC := Lib.hid hcc; clear hcc
      have HCASE := Lib.hid hcase; clear hcase
      clear hn hw2
      go_wp2_with fail
      rw [extract_take]
      refine HTO2.out.mono ?_
      rintro e w3 ⟨rfl, hB3⟩
      have hB3' : Below w.heap.size w w3 := HBr.out.trans (hB3.mono HBr.out.size)
      have hM3 := HGROW.out w3 hB3'
      have cw3 : w3.cell? ⟨mb, 4, none⟩ = some (.map (some wb)) := cell_of_heap hM3.cells 4
      have HM3 := Lib.hid hM3; clear hM3
      have HB3 := Lib.hid hB3'; clear hB3 hB3'
      clear HTO2 cw
      have hcb : word[k] = c := by
        have := HCC.out
        rw [List.getElem?_eq_getElem hkl] at this
        exact Option.some.inj this
      have HCB := Lib.hid hcb; clear hcb
      have hmw3 := HM3.out.cells
      have hml := (HM3.out.lt).1
      obtain ⟨nr, hnr⟩ : ∃ nr, nr = Hy.nearOf x nx := ⟨_, rfl⟩
      have hside := fun W' => HSIDE.out x nx (c.toNat : Int) W'
      rw [show (if nx.length < x.length then nx else x) = nr from hnr.symm] at hside
      rw [← hnr] at HCASE
      have HSI := Lib.hid hside; clear hside
      have HNR := Lib.hid hnr; clear hnr
      have HMW := Lib.hid hmw3; clear hmw3
      unfold encEdge at HSI
      go_wp2_with fail
      obtain ⟨wl, hwl⟩ : ∃ wl, wl = wallIn W nr (c.toNat : Int) := ⟨_, rfl⟩
      have HWL := Lib.hid hwl; clear hwl
      have hidx : ∀ W' : World, (Instr.index 9 (.string ⟨word.toArray⟩) (.int .i64 k)).run Try.prog W' = .ok (.int .u8 c.toNat) W' := fun W' => run_index_str word k c HCC.out W'
      have hc256 := c.toNat_lt
      have hwr : IntKind.i64.wrap (c.toNat : Int) = (c.toNat : Int) := IntWalk.i64_in _ (by omega)
      go_cut [55] (fun v wx => v = .bool wl ∧ Hid (Below w.heap.size w wx))
      case first =>
        go_region_held3 (fun w' => w'.cell? ⟨mb, 4, none⟩ = some (.map (some wb)))
          (first | go_keep | (rw [hc4 _ _ (by simpa using hml)]; simpa using cw3))
          ((go_at_call 37; refine (HSI.out _).mono ?_; rintro e w4 ⟨rfl, hB4⟩; obtain ⟨hc4, hf4⟩ := bcell hB4; have hb4 : Below w.heap.size w w4 := HB3.out.trans ((below_undrew hB4).mono HB3.out.size); have hlk := look_edge (HGROW.out w4 hb4) nr (c.toNat : Int); rw [← HWL.out] at hlk; have HB4 := Lib.hid hb4; clear hb4 hB4))
        all_goals go_wp2_with fail
        all_goals go_meet
        case rel => exact ⟨rfl, HB4⟩
      case rest =>
        obtain ⟨rfl, HB5⟩ := hcut
        clear hidx hwr cw3 hml hc256
        rcases HCASE.out with ⟨h1, h2⟩ | ⟨h1, h2⟩
        · have hw : wl = true := HWL.out.trans h1
          subst hw
          subst h2
          clear h1
          go_wp2_with fail
          go_ret3
          exact ⟨rfl, HB5.out⟩
        · have hw : wl = false := HWL.out.trans h1
          subst hw
          have HS2 := Lib.hid h2; clear h1 h2
          go_wp2_with fail
          go_roundw
          case rel =>
            (repeat apply Exists.intro)
            refine ⟨⟨r, nx, ?_, ?_, rfl, HS2, HB5⟩, rfl⟩
            · omega
            · have h5 := HK.out; have h6 := HK1.out; go_num
          case measure => simp [intOf]; omega
end Go.Proofs.Ytbfnnlcckpabnaa
