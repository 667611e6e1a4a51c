/- The law WalkNone over the program: it returns true. -/
import Derived.Test.YtcbbmpoamjcmeaaSane
import Derived.Test.YtcbbmpoamjcmeaaNone
namespace Go.Proofs.Ytcbbmpoamjcmeaa
set_option linter.unusedSimpArgs false
set_option linter.unusedVariables false
open Go.RowKit

set_option maxRecDepth 100000 in
set_option maxHeartbeats 2000000 in
theorem law_none (u v : List UInt8) (m : Int) (is : Bool) (w : World) : Calls Try.prog 5 #[str u, str v, .int .i64 m, .bool is] w fun e w' => e = .returned (.bool true) ∧ Below w.heap.size w w' := by
  have HSANE := Lib.hid (fun W' => sane7 W')
  unfold str
  go_enter Try.func5, Try.ntmps5
  go_wp2_with fail
  go_loopw [10] (fun i wr => ∃ k : Nat, k ≤ 2 ∧ i = .int .i64 k ∧ Hid (Below w.heap.size w wr)) (fun i _ => 2 - (intOf i).toNat)
  case atStart => exact ⟨0, by omega, rfl, Lib.hid (Below.refl _ _)⟩
  case round =>
    obtain ⟨k, hk, rfl, HB⟩ := hrel
    obtain rfl | rfl | rfl : k = 0 ∨ k = 1 ∨ k = 2 := by omega
    · have HN1 := Lib.hid (show NoneMap wr (.pointer none) from .inl rfl)
      have HB1 := HB
      clear HB
      go_wp2_with fail
      refine (none_Go HN1.out u v).mono ?_
      rintro e x2 ⟨rfl, hB⟩
      have HN2 := Lib.hid (HN1.out.below hB)
      have HB2 := Lib.hid (HB1.out.trans (hB.mono HB1.out.size))
      clear hB HN1 HB1
      (try unfold str)
      go_wp2_with fail
      refine (none_Way HN2.out u v).mono ?_
      rintro e x3 ⟨rfl, hB⟩
      have HN3 := Lib.hid (HN2.out.below hB)
      have HB3 := Lib.hid (HB2.out.trans (hB.mono HB2.out.size))
      clear hB HN2 HB2
      (try unfold str)
      go_wp2_with fail
      refine (none_Near HN3.out u).mono ?_
      rintro e x4 ⟨rfl, hB⟩
      have HN4 := Lib.hid (HN3.out.below hB)
      have HB4 := Lib.hid (HB3.out.trans (hB.mono HB3.out.size))
      clear hB HN3 HB3
      (try unfold str)
      go_wp2_with fail
      refine (none_Image HN4.out).mono ?_
      rintro e x5 ⟨rfl, rfl⟩
      go_wp2_with fail
      refine (none_Put HN4.out u v).mono ?_
      rintro e x5 ⟨rfl, hB⟩
      have HN5 := Lib.hid (HN4.out.below hB)
      have HB5 := Lib.hid (HB4.out.trans (hB.mono HB4.out.size))
      clear hB HN4 HB4
      (try unfold str)
      go_wp2_with fail
      refine (none_Wall HN5.out u m is).mono ?_
      rintro e x6 ⟨rfl, hB⟩
      have HN6 := Lib.hid (HN5.out.below hB)
      have HB6 := Lib.hid (HB5.out.trans (hB.mono HB5.out.size))
      clear hB HN5 HB5
      (try unfold str)
      go_wp2_with fail
      go_roundw
      case rel => exact ⟨1, by omega, rfl, HB6⟩
      case measure => simp [intOf]
    · go_wp2_with fail
      have HN1 := Lib.hid (show NoneMap (wr.alloc (.cells #[.int .i64 0, .int .i64 0, .int .i64 0, .bool false, .map none, .map none] 52)) (.pointer (some ⟨wr.heap.size, 0, none⟩)) from .inr ⟨wr.heap.size, rfl, cell_of_heap (World.alloc_heap_new wr _) 3⟩)
      have HB1 := Lib.hid (HB.out.alloc HB.out.size (.cells #[.int .i64 0, .int .i64 0, .int .i64 0, .bool false, .map none, .map none] 52))
      clear HB
      refine (none_Go HN1.out u v).mono ?_
      rintro e x2 ⟨rfl, hB⟩
      have HN2 := Lib.hid (HN1.out.below hB)
      have HB2 := Lib.hid (HB1.out.trans (hB.mono HB1.out.size))
      clear hB HN1 HB1
      (try unfold str)
      go_wp2_with fail
      refine (none_Way HN2.out u v).mono ?_
      rintro e x3 ⟨rfl, hB⟩
      have HN3 := Lib.hid (HN2.out.below hB)
      have HB3 := Lib.hid (HB2.out.trans (hB.mono HB2.out.size))
      clear hB HN2 HB2
      (try unfold str)
      go_wp2_with fail
      refine (none_Near HN3.out u).mono ?_
      rintro e x4 ⟨rfl, hB⟩
      have HN4 := Lib.hid (HN3.out.below hB)
      have HB4 := Lib.hid (HB3.out.trans (hB.mono HB3.out.size))
      clear hB HN3 HB3
      (try unfold str)
      go_wp2_with fail
      refine (none_Image HN4.out).mono ?_
      rintro e x5 ⟨rfl, rfl⟩
      go_wp2_with fail
      refine (none_Put HN4.out u v).mono ?_
      rintro e x5 ⟨rfl, hB⟩
      have HN5 := Lib.hid (HN4.out.below hB)
      have HB5 := Lib.hid (HB4.out.trans (hB.mono HB4.out.size))
      clear hB HN4 HB4
      (try unfold str)
      go_wp2_with fail
      refine (none_Wall HN5.out u m is).mono ?_
      rintro e x6 ⟨rfl, hB⟩
      have HN6 := Lib.hid (HN5.out.below hB)
      have HB6 := Lib.hid (HB5.out.trans (hB.mono HB5.out.size))
      clear hB HN5 HB5
      (try unfold str)
      go_wp2_with fail
      go_roundw
      case rel => exact ⟨2, by omega, rfl, HB6⟩
      case measure => simp [intOf]
    · go_wp2_with fail
      refine (HSANE.out _).mono ?_
      rintro e x1 ⟨rfl, hB⟩
      have HB1 := Lib.hid (HB.out.trans (hB.mono HB.out.size))
      clear hB
      go_wp2_with fail
      go_ret
      exact ⟨rfl, HB1.out⟩
end Go.Proofs.Ytcbbmpoamjcmeaa
