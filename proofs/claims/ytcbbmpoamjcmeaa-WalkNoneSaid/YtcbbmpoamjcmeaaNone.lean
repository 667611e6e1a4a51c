/- The methods of a map that is none. -/
import Derived.Test.YtcbbmpoamjcmeaaWay
namespace Go.Proofs.Ytcbbmpoamjcmeaa
set_option linter.unusedSimpArgs false
set_option linter.unusedVariables false
open Go.RowKit

/-- A nil map, or one that nobody has made. -/
def NoneMap (w : World) (v : Value) : Prop := v = .pointer none ∨ ∃ b, v = .pointer (some ⟨b, 0, none⟩) ∧ w.cell? ⟨b, 3, none⟩ = some (.bool false)

theorem NoneMap.below {w w' : World} {v : Value} (h : NoneMap w v) (hb : Below w.heap.size w w') : NoneMap w' v := by
  rcases h with h | ⟨b, h, h2⟩
  · exact .inl h
  · exact .inr ⟨b, h, (hb.cell (p := ⟨b, 3, none⟩) (World.block_lt_of_cell? _ _ h2)).trans h2⟩

theorem walk_none_of {w : World} {v : Value} (h : NoneMap w v) : Calls Try.prog 65 #[v] w fun e w' => e = .returned (.bool true) ∧ w = w' := by
  rcases h with rfl | ⟨b, rfl, h⟩
  · exact walk_none_nil w
  · exact walk_none_some b false w h

set_option maxRecDepth 100000 in
theorem none_normals {w : World} {v : Value} (h : NoneMap w v) (sv : Value) : Calls Try.prog 50 #[v, sv] w fun e w' => e = .returned (.tuple #[.slice none 0 0, .int .i64 1]) ∧ w = w' := by
  have HC := Lib.hid (walk_none_of h); clear h
  go_enter Try.func50, Try.ntmps50
  go_wp2_with fail
  refine HC.out.mono ?_
  rintro e w1 ⟨rfl, rfl⟩
  clear HC
  go_wp2_with fail
  go_ret2
  exact ⟨rfl, rfl⟩

set_option maxRecDepth 100000 in
theorem none_normal {w : World} {v : Value} (h : NoneMap w v) (l : List UInt8) : Calls Try.prog 63 #[v, str l] w fun e w' => e = .returned (.tuple #[str [], .int .i64 1]) ∧ Below w.heap.size w w' := by
  have HC := Lib.hid (fun ob sv => none_normals (h.below ((Below.refl _ _).alloc (Nat.le_refl _) ob)) sv); clear h
  unfold str
  go_enter Try.func63, Try.ntmps63
  go_wp2_with fail
  refine (HC.out _ _).mono ?_
  rintro e w1 ⟨rfl, rfl⟩
  clear HC
  go_wp2_with fail
  go_ret2
  exact ⟨rfl, (Below.refl _ _).alloc (Nat.le_refl _) _⟩

set_option maxRecDepth 100000 in
theorem none_Wall {w : World} {v : Value} (h : NoneMap w v) (l : List UInt8) (m : Int) (there : Bool) : Calls Try.prog 23 #[v, encEdge (l, m), .bool there] w fun e w' => e = .returned (.int .i64 1) ∧ Below w.heap.size w w' := by
  have HC := Lib.hid (fun ob => none_normal (h.below ((Below.refl _ _).alloc (Nat.le_refl _) ob)) l); clear h
  unfold str encEdge at *
  go_enter Try.func23, Try.ntmps23
  go_wp2_with fail
  refine (HC.out _).mono ?_
  rintro e w1 ⟨rfl, hB⟩
  have HB := Lib.hid hB; clear hB
  clear HC
  go_wp2_with fail
  go_ret
  exact ⟨rfl, ((Below.refl _ _).alloc (Nat.le_refl _) _).trans (HB.out.mono (by simp))⟩

set_option maxRecDepth 100000 in
theorem none_Put {w : World} {v : Value} (h : NoneMap w v) (l r : List UInt8) : Calls Try.prog 22 #[v, str l, str r] w fun e w' => e = .returned (.int .i64 1) ∧ Below w.heap.size w w' := by
  have HC := Lib.hid (none_normal h l); clear h
  unfold str at *
  go_enter Try.func22, Try.ntmps22
  go_wp2_with fail
  refine HC.out.mono ?_
  rintro e w1 ⟨rfl, hB⟩
  have HB := Lib.hid hB; clear hB
  clear HC
  go_wp2_with fail
  go_ret
  exact ⟨rfl, HB.out⟩

set_option maxRecDepth 100000 in
theorem none_Go {w : World} {v : Value} (h : NoneMap w v) (l r : List UInt8) : Calls Try.prog 18 #[v, str l, str r] w fun e w' => e = .returned (.tuple #[str [], .int .i64 0, .int .i64 1]) ∧ Below w.heap.size w w' := by
  have HC := Lib.hid (fun ob sv => none_normals (h.below ((Below.refl _ _).alloc (Nat.le_refl _) ob)) sv); clear h
  unfold str at *
  go_enter Try.func18, Try.ntmps18
  go_wp2_with fail
  refine (HC.out _ _).mono ?_
  rintro e w1 ⟨rfl, rfl⟩
  clear HC
  go_wp2_with fail
  go_ret3
  exact ⟨rfl, (Below.refl _ _).alloc (Nat.le_refl _) _⟩

set_option maxRecDepth 100000 in
theorem none_Image {w : World} {v : Value} (h : NoneMap w v) : Calls Try.prog 21 #[v] w fun e w' => e = .returned (.slice none 0 0) ∧ w = w' := by
  have HC := Lib.hid (walk_none_of h); clear h
  go_enter Try.func21, Try.ntmps21
  go_wp2_with fail
  refine HC.out.mono ?_
  rintro e w1 ⟨rfl, rfl⟩
  clear HC
  go_wp2_with fail
  go_ret
  exact ⟨rfl, rfl⟩

set_option maxRecDepth 100000 in
theorem none_Way {w : World} {v : Value} (h : NoneMap w v) (l r : List UInt8) : Calls Try.prog 13 #[v, str l, str r] w fun e w' => e = .returned (.tuple #[str [], .int .i64 1]) ∧ Below w.heap.size w w' := by
  have HC := Lib.hid (fun W' (hb : Below w.heap.size w W') sv => none_normals (h.below hb) sv); clear h
  unfold str at *
  refine calls_of_marks Try.func13 rfl ?_
  simp only [Try.ntmps13, List.size_toArray, List.length_cons, List.length_nil, Nat.reduceAdd, Nat.reduceSub, Array.replicate_succ, Array.replicate_zero, List.push_toArray, List.append_toArray, List.nil_append, List.cons_append]
  go_wp2_with fail
  have hB0 : Below w.heap.size w (((w.alloc (.cells #[.string ⟨#[]⟩] 9)).alloc (.cells #[.int .i64 0] 24)).alloc (.cells #[.string ⟨l.toArray⟩, .string ⟨r.toArray⟩] 9)) :=
    (((Below.refl _ _).alloc (Nat.le_refl _) _).alloc (by simp) _).alloc (by simp; omega) _
  refine (HC.out _ hB0 _).mono ?_
  rintro e w1 ⟨rfl, rfl⟩
  clear HC
  go_wp2_with fail
  refine post_marks0 (v := .tuple #[.string ⟨#[]⟩, .int .i64 1]) ?_ rfl ⟨rfl, ?_⟩
  · simp [results, Try.results13, go_sem]
  · exact ((((Below.refl _ _).alloc (Nat.le_refl _) _).alloc (by simp) _).alloc (by simp; omega) _).alloc (by simp; omega) _

set_option maxRecDepth 100000 in
theorem none_Near {w : World} {v : Value} (h : NoneMap w v) (l : List UInt8) : Calls Try.prog 20 #[v, str l] w fun e w' => e = .returned (.tuple #[str [], str [], .int .i64 1]) ∧ Below w.heap.size w w' := by
  have HC := Lib.hid (fun W' (hb : Below w.heap.size w W') => none_normal (h.below hb) l)
  obtain ⟨p, rfl⟩ : ∃ p, v = .pointer p := by
    rcases h with h | ⟨b, h, _⟩
    · exact ⟨_, h⟩
    · exact ⟨_, h⟩
  clear h
  unfold str at *
  refine calls_of_marks Try.func20 rfl ?_
  simp only [Try.ntmps20, List.size_toArray, List.length_cons, List.length_nil, Nat.reduceAdd, Nat.reduceSub, Array.replicate_succ, Array.replicate_zero, List.push_toArray, List.append_toArray, List.nil_append, List.cons_append]
  go_wp2_with fail
  have hB0 : Below w.heap.size w ((w.alloc (.cells #[.pointer p] 26)).alloc (.cells #[.string ⟨#[]⟩] 9)) :=
    ((Below.refl _ _).alloc (Nat.le_refl _) _).alloc (by simp) _
  refine (HC.out _ hB0).mono ?_
  rintro e w1 ⟨rfl, hB⟩
  have hB1 : Below w.heap.size w w1 := hB0.trans (hB.mono (by simp; omega))
  have hex : w1.heap[w.heap.size + 1]? = some (.cells #[.string ⟨#[]⟩] 9) := by
    have := World.alloc_heap_new (w.alloc (.cells #[.pointer p] 26)) (.cells #[.string ⟨#[]⟩] 9)
    rw [World.size_alloc] at this
    exact (hB.block _ (by simp)).trans this
  have c0 := cell_of_heap hex 0
  have f0 := free_of_heap hex 0
  simp only [List.getElem?_toArray, List.getElem?_cons_zero] at c0
  have c1 : (w1.setCell ⟨w.heap.size + 1, 0, none⟩ (.string ⟨#[]⟩)).cell? ⟨w.heap.size + 1, 0, none⟩ = some (.string ⟨#[]⟩) := World.cell?_setCell_same' _ _ _ (by rw [c0]; rfl)
  have HB1 := Lib.hid hB1; have HC1 := Lib.hid c1
  clear hB hB0 hB1 hex HC c1
  go_wp2_with fail
  refine post_marks0 (v := .tuple #[.string ⟨#[]⟩, .string ⟨#[]⟩, .int .i64 1]) ?_ rfl ⟨rfl, HB1.out.setCell (by simp) _⟩
  have c1 := HC1.out
  simp [results, Try.results20, go_sem, c1]
end Go.Proofs.Ytcbbmpoamjcmeaa
