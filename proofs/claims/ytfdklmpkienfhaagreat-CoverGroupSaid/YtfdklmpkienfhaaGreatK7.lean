/- Package cover: the code of an action. -/
import Derived.Test.YtfdklmpkienfhaaGreatK6
import Derived.Test.YtfdklmpkienfhaaGreatDrn
namespace Go.Proofs.YtfdklmpkienfhaaGreat
set_option linter.unusedSimpArgs false
set_option linter.unusedVariables false
open Go.RowKit

def byteOf (x : Int) : UInt8 := UInt8.ofNat x.toNat
/-- The code of lists. -/
def codeL (A : Nat → List Int) : List UInt8 := (A 0 ++ A 1 ++ A 2).map byteOf
def bytesV (L : List UInt8) : List Value := L.map fun b => .int .u8 b.toNat
/-- The first i lists, and j elements of the next. -/
def flatA (A : Nat → List Int) (i j : Nat) : List Int := ((List.range i).flatMap A) ++ (A i).take j
theorem flatA_next (A : Nat → List Int) (i : Nat) : flatA A i (A i).length = flatA A (i + 1) 0 := by
  unfold flatA
  rw [List.take_length, List.range_succ, List.flatMap_append]
  simp
theorem flatA_snoc (A : Nat → List Int) (i j : Nat) (hj : j < (A i).length) : flatA A i (j + 1) = flatA A i j ++ [(A i).getD j 0] := by
  unfold flatA
  rw [List.take_add_one, List.getElem?_eq_getElem hj, ← List.append_assoc]
  simp [List.getD, List.getElem?_eq_getElem hj]
theorem flatA_all (A : Nat → List Int) : flatA A 3 0 = A 0 ++ A 1 ++ A 2 := by
  unfold flatA
  simp [List.range_succ]
theorem flatA_len (A : Nat → List Int) {L : Nat} (h : ∀ i, i < 3 → (A i).length ≤ L) {i j : Nat} (hi : i < 3) (hj : j ≤ (A i).length) : (flatA A i j).length ≤ 3 * L := by
  have h0 := h 0 (by omega)
  have h1 := h 1 (by omega)
  have h2 := h 2 (by omega)
  have h3 := h i hi
  unfold flatA
  obtain rfl | rfl | rfl : i = 0 ∨ i = 1 ∨ i = 2 := by omega
  · simp; omega
  · simp [List.range_succ]; omega
  · simp [List.range_succ]; omega
theorem rowU8 : RowType Tryz.prog 168 5 1 := rowType_of (z := .int .u8 0) (bytes := 1) Tryz.underlying168 infoByte rfl (by decide) (by decide)
theorem run_to_byte (x : Nat) (hx : x < 256) (w : World) : Sem.run Tryz.prog (convert 3 5 (.int .i64 (x : Int))) w = .ok (.int .u8 (x : Int)) w := by
  have h : ∀ x : Fin 256, IntKind.wrap .u8 ((x.val : Nat) : Int) = ((x.val : Nat) : Int) := by decide +kernel
  have h2 := h ⟨x, hx⟩
  simp only at h2
  have hc : convert 3 5 (.int .i64 (x : Int)) = convert 3 5 (.int .i64 (x : Int)) := rfl
  unfold convert
  simp [go_sem, Tryz.underlying3, Tryz.underlying5, h2]

set_option maxRecDepth 100000 in
set_option maxHeartbeats 2000000 in
theorem cover_code_d (V : Nat → Value) (A : Nat → List Int) (w : World) (hA : AR w.heap.size w V A) (h0 : 0 < (A 0).length) (hlen : ∀ i, i < 3 → (A i).length ≤ 1000) (hb : ∀ i, i < 3 → ∀ x ∈ A i, 0 ≤ x ∧ x < 256) :
    Calls Tryz.prog 71 #[actV V] w fun e w' => e = .returned (str (codeL A)) ∧ Below w.heap.size w w' ∧ w.drawn ≤ w'.drawn := by
  have HIX := Lib.hid (fun i hi W => run_index_lists V i hi W)
  have HA := Lib.hid hA
  have HLEN := Lib.hid hlen
  have h0n := h0
  have HBB := Lib.hid hb
  obtain ⟨W1, hW1⟩ : ∃ W1, W1 = w.alloc (.cells #[V 0, V 1, V 2] 27) := ⟨_, rfl⟩
  have hs1 : W1.heap.size = w.heap.size + 1 := by rw [hW1]; simp
  have HB1 := Lib.hid (show Below w.heap.size w W1 from by rw [hW1]; exact (Below.refl w.heap.size w).alloc (Nat.le_refl _) _)
  have hq : W1.heap[w.heap.size]? = some (.cells #[V 0, V 1, V 2] 27) := by rw [hW1]; exact alloc_heap_new w _
  have HS1 := Lib.hid hs1
  have HD1 := Lib.hid (show w.drawn ≤ W1.drawn from by rw [hW1]; exact Nat.le_refl _)
  clear hA hlen hb
  unfold actV
  go_enter Tryz.func71, Tryz.ntmps71
  go_upto_region 2 with fail
  rw [← hW1]
  clear hW1 hs1
  have k0 := box_at hq (i := 0) (by omega)
  have k1 := box_at hq (i := 1) (by omega)
  have k2 := box_at hq (i := 2) (by omega)
  clear hq
  go_wp2_with fail
  go_loopw [10, 3] (fun iv v wr => ∃ i : Nat, iv = .int .i64 i ∧ i ≤ 3 ∧ Hid (GR wr 1 v (flatA A i 0).length (bytesV ((flatA A i 0).map byteOf))) ∧ Hid (∀ b, v.ownBlock = some b → W1.heap.size ≤ b) ∧ Hid (Below W1.heap.size W1 wr) ∧ Hid (w.drawn ≤ wr.drawn)) (fun iv _ _ => 3 - (intOf iv).toNat)
  case atStart => exact ⟨0, rfl, Nat.zero_le _, Lib.hid (.inl ⟨rfl, rfl, rfl⟩), Lib.hid (fun b hb => by simp [Value.ownBlock] at hb), Lib.hid (Below.refl _ _), HD1⟩
  case round =>
    clear k0 k1 k2
    obtain ⟨i, rfl, hi, HG, HO, HB, HD⟩ := hrel
    by_cases hi3 : i < 3
    · have hii : (i : Int) < 3 := by omega
      have hix := HIX.out i hi3
      obtain ⟨ai, ci, hVi, -, hc⟩ := HA.out i hi3
      obtain ⟨m, hm⟩ : ∃ m, m = (A i).length := ⟨_, rfl⟩
      rw [← hm] at hVi hc
      rw [hVi] at hix
      have hm1000 : m ≤ 1000 := by rw [hm]; exact HLEN.out i hi3
      have HC := Lib.hid hc
      have HM := Lib.hid hm
      clear hVi hc hm
      go_wp2_with fail
      clear hix
      go_loopw [15, 3] (fun jv v wr => ∃ j : Nat, jv = .int .i64 j ∧ j ≤ m ∧ Hid (GR wr 1 v (flatA A i j).length (bytesV ((flatA A i j).map byteOf))) ∧ Hid (∀ b, v.ownBlock = some b → W1.heap.size ≤ b) ∧ Hid (Below W1.heap.size W1 wr) ∧ Hid (w.drawn ≤ wr.drawn)) (fun jv _ _ => m - (intOf jv).toNat)
      case atStart => exact ⟨0, rfl, Nat.zero_le _, HG, HO, HB, HD⟩
      case round =>
        clear HG HO HB HD
        obtain ⟨j, rfl, hj, HG, HO, HB, HD⟩ := hrel
        by_cases hjm : j < m
        · have hji : (j : Int) < (m : Int) := by omega
          obtain ⟨g, off, rfl, hg, hc⟩ := HC.out j hjm
          obtain ⟨x, hx⟩ : ∃ x : Nat, (A i).getD j 0 = (x : Int) ∧ x < 256 := by
            have h1 := HBB.out i hi3 ((A i).getD j 0) (by rw [List.getD, List.getElem?_eq_getElem (by rw [← HM.out]; exact hjm)]; exact List.getElem_mem _)
            exact ⟨((A i).getD j 0).toNat, by omega, by omega⟩
          rw [hx.1] at hc
          have c1 : wr.cell? ⟨g, off + j, none⟩ = some (.int .i64 (x : Int)) := ((HB1.out.trans (HB.out.mono HB1.out.size)).cell (p := ⟨g, off + j, none⟩) hg).trans hc
          have hcv := fun W => run_to_byte x hx.2 W
          obtain ⟨n, hn⟩ : ∃ n, n = (flatA A i j).length := ⟨_, rfl⟩
          obtain ⟨xs, hxs⟩ : ∃ xs, xs = bytesV ((flatA A i j).map byteOf) := ⟨_, rfl⟩
          rw [← hn, ← hxs] at HG
          obtain ⟨a3, c3, hve, -⟩ := HG.out.open
          subst hve
          have HN9 := Lib.hid (show n ≤ 900000000 from by rw [hn]; have := flatA_len A HLEN.out hi3 (by rw [← HM.out]; exact hj); omega)
          have HNX := Lib.hid (And.intro hn hxs)
          have HX := Lib.hid hx
          clear hc hx hn hxs
          go_wp2_with (at_builtin; refine wpList_grD _ rowU8 rfl _ _ rfl (v := .slice a3 n c3) (xs := xs) rfl HG.out _ [.int .u8 x] rfl rfl (by intro u hu; simp at hu; subst hu; rfl) HN9.out ?_)
          intro v9 w9 hq9 ho9 hv9 hd9
          have HD9 := Lib.hid (Nat.le_trans HD.out hd9)
          have hsz := HB.out.size
          have HG9 := Lib.hid (show GR w9 1 v9 (flatA A i (j + 1)).length (bytesV ((flatA A i (j + 1)).map byteOf)) from by
            rw [flatA_snoc A i j (by rw [← HM.out]; exact hjm), List.length_append, ← HNX.out.1, HX.out.1]
            have e : bytesV ((flatA A i j ++ [(x : Int)]).map byteOf) = xs ++ [.int .u8 x] := by
              have hb : (byteOf (x : Int)).toNat = x := by unfold byteOf; simp; have := HX.out.2; omega
              rw [HNX.out.2]
              simp [bytesV, hb]
            rw [e]
            exact hq9)
          have HO9 := Lib.hid (show ∀ b, v9.ownBlock = some b → W1.heap.size ≤ b from fun b hb => by
            rcases hv9 b hb with h | h
            · exact HO.out b h
            · omega)
          have HB9 := Lib.hid (HB.out.trans (ho9.below (fun k hk => by
            rcases hk with hk | hk
            · exact HO.out k hk
            · omega)))
          clear hq9 ho9 hv9 hd9 c1 hcv hsz
          go_wp2_with fail
          go_roundw
          case rel => exact ⟨j + 1, by go_num, hjm, HG9, HO9, HB9, HD9⟩
          case measure => simp [intOf]; omega
        · obtain rfl : j = m := by omega
          have hji : ¬ (j : Int) < (j : Int) := by omega
          go_wp2_with fail
          go_roundw
          case rel => exact ⟨i + 1, by go_num, by omega, by rw [← flatA_next, ← HM.out]; exact HG, HO, HB, HD⟩
          case measure => simp [intOf]; omega
    · obtain rfl : i = 3 := by omega
      have hii : ¬ ((3 : Nat) : Int) < 3 := by omega
      rw [flatA_all] at HG
      obtain ⟨n, hn⟩ : ∃ n, n = (A 0 ++ A 1 ++ A 2).length := ⟨_, rfl⟩
      rw [← hn] at HG
      obtain ⟨a3, c3, hve, -, hcl⟩ := HG.out.open
      have hl : (codeL A).length = n := by unfold codeL; rw [List.length_map, hn]
      have hcell : ∀ j (hj : j < (codeL A).length), ∃ g off, a3 = some ⟨g, off, none⟩ ∧ wr.cell? ⟨g, off + j, none⟩ = some (.int .u8 ((codeL A)[j].toNat : Int)) := fun j hj => by
        obtain ⟨g, off, h1, _, h2⟩ := hcl j (.int .u8 ((codeL A)[j].toNat : Int)) (by
          have : (codeL A)[j]? = some (codeL A)[j] := List.getElem?_eq_getElem hj
          show (bytesV (codeL A))[j]? = _
          unfold bytesV
          rw [List.getElem?_map, this]; rfl)
        exact ⟨g, off, h1, h2⟩
      obtain ⟨g, off, rfl, -⟩ := hcell 0 (by rw [hl, hn]; simp; omega)
      subst hve
      have htx := run_text wr g off n c3 (codeL A) hl.symm (fun j hj => by
        obtain ⟨g', off', e, hc⟩ := hcell j hj
        simp only [Option.some.injEq, Addr.mk.injEq, and_true] at e
        obtain ⟨rfl, rfl⟩ := e
        exact hc)
      clear hcl hn hcell hl
      go_wp2_with fail
      go_ret
      exact ⟨rfl, HB1.out.trans (HB.out.mono HB1.out.size), HD.out⟩

theorem cover_code (V : Nat → Value) (A : Nat → List Int) (w : World) (hA : AR w.heap.size w V A) (h0 : 0 < (A 0).length) (hlen : ∀ i, i < 3 → (A i).length ≤ 1000) (hb : ∀ i, i < 3 → ∀ x ∈ A i, 0 ≤ x ∧ x < 256) :
    Calls Tryz.prog 71 #[actV V] w fun e w' => e = .returned (str (codeL A)) ∧ Below w.heap.size w w' :=
  (cover_code_d V A w hA h0 hlen hb).mono fun e w' h => ⟨h.1, h.2.1⟩
end Go.Proofs.YtfdklmpkienfhaaGreat
