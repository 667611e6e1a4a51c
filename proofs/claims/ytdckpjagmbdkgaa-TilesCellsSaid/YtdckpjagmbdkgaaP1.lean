import Derived.Test.YtdckpjagmbdkgaaInts
import Derived.Test.YtdckpjagmbdkgaaLds
import Derived.Test.YtdckpjagmbdkgaaSer
import Derived.Laws.CopyOwn
import Derived.Test.YtdckpjagmbdkgaaApq
import Derived.BigRegion

/- The polynomials of package tiles: ones, turned, trimmed. -/
namespace Go.Proofs.Ytdckpjagmbdkgaa
set_option linter.unusedSimpArgs false
set_option linter.unusedVariables false
open Go.RowKit
open HySer (ones ptrim trimGo)

/-- A slice of numbers that is read. -/
def PR (k : IntKind) (w : World) (v : Value) (l : List Int) : Prop :=
  ∃ g off cap, v = .slice (some ⟨g, off, none⟩) l.length cap ∧ l.length ≤ cap ∧ g < w.heap.size ∧ ∀ j, j < l.length → w.cell? ⟨g, off + j, none⟩ = some (.int k (l.getD j 0))

theorem PR.later {k : IntKind} {w w' : World} {v : Value} {l : List Int} (h : PR k w v l) (hb : Below w.heap.size w w') : PR k w' v l := by
  obtain ⟨g, off, cap, h1, h2, h3, h4⟩ := h
  exact ⟨g, off, cap, h1, h2, Nat.lt_of_lt_of_le h3 hb.size, fun j hj => by rw [World.cell?_of_block (w := w) (a := ⟨g, off + j, none⟩) (hb.block g h3)]; exact h4 j hj⟩
theorem IQ.pr {k : IntKind} {w : World} {g : Nat} {v : Value} {l : List Int} (h : IQ k w g v l) : PR k w v l := by
  obtain ⟨off, cap, h1, h2, h3, h4, h5, h6⟩ := id h
  obtain ⟨off', cap', e, h7, _⟩ := h.open
  rw [h1] at e
  cases e
  exact ⟨g, off, cap, h1, h2, h.lt, h7⟩

/-- A new slice of numbers. -/
def NewI (l : List Int) (w : World) (e : Ending) (w' : World) : Prop := ∃ g v, e = .returned v ∧ IQ .i64 w' g v l ∧ w.heap.size ≤ g ∧ Below w.heap.size w w'

/-- The loop's state: a slice of its own, and nothing else has changed. -/
structure Own1 (w wr : World) (g : Nat) (v : Value) (l : List Int) : Prop where
  q : IQ .i64 wr g v l
  ge : w.heap.size ≤ g
  below : Below w.heap.size w wr

theorem Own1.make (w : World) (n : Nat) (hn : n ≤ 1000000000) : Own1 w (w.alloc (.cells (Array.replicate n (.int .i64 0)) 3)) w.heap.size (.slice (some ⟨w.heap.size, 0, none⟩) n n) (List.replicate n 0) :=
  ⟨IQ.zeros .i64 w n 3 hn, Nat.le_refl _, (Below.refl _ _).alloc (Nat.le_refl _) _⟩
theorem Own1.set {w wr : World} {g off n cap : Nat} {l : List Int} (h : Own1 w wr g (.slice (some ⟨g, off, none⟩) n cap) l) {j : Nat} (hj : j < l.length) (x : Int) : Own1 w (wr.setCell ⟨g, off + j, none⟩ (.int .i64 x)) g (.slice (some ⟨g, off, none⟩) n cap) (l.set j x) :=
  ⟨h.q.set hj x, h.ge, h.below.setCell (p := ⟨g, off + j, none⟩) h.ge _⟩
theorem Own1.modify {w wr : World} {g off n cap : Nat} {l : List Int} (h : Own1 w wr g (.slice (some ⟨g, off, none⟩) n cap) l) {j : Nat} (hj : j < l.length) (f : Int → Int) {x : Int} (hx : x = f (l.getD j 0)) : Own1 w (wr.setCell ⟨g, off + j, none⟩ (.int .i64 x)) g (.slice (some ⟨g, off, none⟩) n cap) (l.modify j f) :=
  ⟨h.q.modify hj f hx, h.ge, h.below.setCell (p := ⟨g, off + j, none⟩) h.ge _⟩
theorem Own1.new {w wr : World} {g : Nat} {v : Value} {l : List Int} (h : Own1 w wr g v l) : NewI l w (.returned v) wr := ⟨g, v, rfl, h.q, h.ge, h.below⟩
/-- What was there is read as before. -/
theorem Own1.read {w wr : World} {g : Nat} {v : Value} {l : List Int} (h : Own1 w wr g v l) {b o : Nat} (hb : b < w.heap.size) : wr.cell? ⟨b, o, none⟩ = w.cell? ⟨b, o, none⟩ := h.below.cell (p := ⟨b, o, none⟩) hb

theorem rep_set (m k : Nat) (hk : k < m) (x : Int) : (List.replicate k x ++ List.replicate (m - k) 0).set k x = List.replicate (k + 1) x ++ List.replicate (m - (k + 1)) 0 := by
  rw [List.set_append_right _ _ (by simp), List.length_replicate, Nat.sub_self, show m - k = (m - (k + 1)) + 1 from by omega, List.replicate_succ, List.set_cons_zero, List.replicate_succ' (n := k)]
  simp

set_option maxRecDepth 100000 in
set_option maxHeartbeats 1000000 in
theorem t04_ones (m : Nat) (hm : m ≤ 1000) (w : World) : Calls Try.prog 59 #[.int .i64 m] w (NewI (ones m) w) := by
  have hmk := make_ints w m (by omega)
  have H0 := Lib.hid (Own1.make w m (by omega))
  go_enter Try.func59, Try.ntmps59
  go_wp2_with fail
  clear hmk
  generalize w.alloc (.cells (Array.replicate m (.int .i64 0)) 3) = W1 at *
  go_loopw [9] (fun i wr => ∃ k : Nat, i = .int .i64 k ∧ k ≤ m ∧ Hid (Own1 w wr w.heap.size (.slice (some ⟨w.heap.size, 0, none⟩) m m) (List.replicate k 1 ++ List.replicate (m - k) 0))) (fun i _ => m - (intOf i).toNat)
  case atStart => exact ⟨0, rfl, Nat.zero_le _, Lib.hid (by simpa using H0.out)⟩
  case round =>
    clear H0
    obtain ⟨k, rfl, hk, HO⟩ := hrel
    by_cases hlt : k < m
    · obtain ⟨-, hc, hf⟩ := HO.out.q.at
      have c1 := hc k (by simp; omega)
      have f1 := hf k (by simp; omega)
      have hs := HO.out.set (j := k) (by simp; omega) 1
      rw [rep_set m k hlt] at hs
      rw [Nat.zero_add] at c1 f1 hs
      have HS := Lib.hid hs
      have hki : (k : Int) < (m : Int) := by omega
      clear hc hf hs
      go_wp2_with fail
      go_roundw
      case rel => exact ⟨k + 1, by go_num, by omega, HS⟩
      case measure => simp [intOf]; omega
    · obtain rfl : k = m := by omega
      clear hlt hk
      go_wp2_with fail
      go_ret
      have h := HO.out
      rw [Nat.sub_self] at h
      simp only [List.replicate_zero, List.append_nil] at h
      exact h.new

theorem rev_set (a : List Int) (k : Nat) (hk : k < a.length) : (List.replicate (a.length - k) 0 ++ (a.take k).reverse).set (a.length - 1 - k) (a.getD k 0) = List.replicate (a.length - (k + 1)) 0 ++ (a.take (k + 1)).reverse := by
  rw [List.set_append_left _ _ (by simp; omega), show a.length - k = (a.length - (k + 1)) + 1 from by omega, List.replicate_succ', List.set_append_right _ _ (by simp; omega), List.length_replicate,
    show a.length - 1 - k - (a.length - (k + 1)) = 0 from by omega, List.set_cons_zero]
  have e : (a.take (k + 1)).reverse = a[k] :: (a.take k).reverse := by rw [List.take_succ_eq_append_getElem hk]; simp
  rw [e]
  simp [List.getD, List.getElem?_eq_getElem hk]

set_option maxRecDepth 100000 in
set_option maxHeartbeats 1000000 in
theorem t04_turned {w : World} {v : Value} {a : List Int} (h : PR .i64 w v a) (hl : a.length ≤ 100000) : Calls Try.prog 63 #[v] w (NewI a.reverse w) := by
  obtain ⟨ga, oa, ca, rfl, hcap, hga, hcell⟩ := h
  have hmk := make_ints w a.length (by omega)
  have H0 := Lib.hid (Own1.make w a.length (by omega))
  have HA := Lib.hid hcell
  clear hcell
  go_enter Try.func63, Try.ntmps63
  go_wp2_with fail
  clear hmk
  generalize w.alloc (.cells (Array.replicate a.length (.int .i64 0)) 3) = W1 at *
  go_loopw [11] (fun i wr => ∃ k : Nat, i = .int .i64 k ∧ k ≤ a.length ∧ Hid (Own1 w wr w.heap.size (.slice (some ⟨w.heap.size, 0, none⟩) a.length a.length) (List.replicate (a.length - k) 0 ++ (a.take k).reverse))) (fun i _ => a.length - (intOf i).toNat)
  case atStart => exact ⟨0, rfl, Nat.zero_le _, Lib.hid (by simpa using H0.out)⟩
  case round =>
    clear H0
    obtain ⟨k, rfl, hk, HO⟩ := hrel
    by_cases hlt : k < a.length
    · obtain ⟨-, hc, hf⟩ := HO.out.q.at
      have c1 := hc (a.length - 1 - k) (by simp; omega)
      have f1 := hf (a.length - 1 - k) (by simp; omega)
      have r1 := (HO.out.read (o := oa + k) hga).trans (HA.out k hlt)
      have hs := HO.out.set (j := a.length - 1 - k) (by simp; omega) (a.getD k 0)
      rw [rev_set a k hlt] at hs
      rw [Nat.zero_add] at c1 f1 hs
      have HS := Lib.hid hs
      obtain ⟨n, hn⟩ : ∃ n, n = a.length - 1 - k := ⟨_, rfl⟩
      rw [← hn] at c1 f1
      have HS' : Hid (Own1 w (wr.setCell ⟨w.heap.size, n, none⟩ (.int .i64 (a.getD k 0))) w.heap.size (.slice (some ⟨w.heap.size, 0, none⟩) a.length a.length) (List.replicate (a.length - (k + 1)) 0 ++ (a.take (k + 1)).reverse)) := by rw [hn]; exact HS
      have hni : (a.length : Int) - 1 - (k : Int) = (n : Int) := by omega
      have hnl : (n : Int) < (a.length : Int) := by omega
      have hki : (k : Int) < (a.length : Int) := by omega
      generalize a.getD k 0 = x at *
      clear hc hf hs hn HS
      go_wp2_with fail
      go_roundw
      case rel => exact ⟨k + 1, by go_num, by omega, HS'⟩
      case measure => simp [intOf]; omega
    · obtain rfl : k = a.length := by omega
      clear hlt hk
      go_wp2_with fail
      go_ret
      have h := HO.out
      rw [Nat.sub_self, List.take_length] at h
      simp only [List.replicate_zero, List.nil_append] at h
      exact h.new

theorem PR.front {k : IntKind} {w : World} {g off n cap : Nat} {l : List Int} (h : PR k w (.slice (some ⟨g, off, none⟩) n cap) l) (hl : 0 < l.length) : PR k w (.slice (some ⟨g, off, none⟩) (n - 1) cap) l.dropLast := by
  obtain ⟨g', off', cap', e, h2, h3, h4⟩ := h
  simp only [Value.slice.injEq, Option.some.injEq, Addr.mk.injEq, true_and, and_true] at e
  obtain ⟨⟨rfl, rfl⟩, rfl, rfl⟩ := e
  refine ⟨g, off, cap, by simp, by simp; omega, h3, fun j hj => ?_⟩
  rw [h4 j (by simp at hj; omega)]
  simp at hj
  have hj2 : j < l.length := by omega
  simp [List.getD, List.getElem?_dropLast, hj, List.getElem?_eq_getElem hj2]

set_option maxRecDepth 100000 in
set_option maxHeartbeats 1000000 in
theorem t04_trimmed {w : World} {v : Value} {a : List Int} (h : PR .i64 w v a) (hl : a.length ≤ 100000) : Calls Try.prog 62 #[v] w fun e w' => ∃ v', e = .returned v' ∧ PR .i64 w (v') (ptrim a) ∧ w = w' := by
  have HA := Lib.hid h
  obtain ⟨f0, hf0⟩ : ∃ f0, f0 = a.length := ⟨_, rfl⟩
  go_enter Try.func62, Try.ntmps62
  go_wp2_with fail
  go_loop [0] (fun v => ∃ l f, PR .i64 w v l ∧ l.length ≤ f ∧ l.length ≤ a.length ∧ Hid (trimGo f l = ptrim a)) (fun v => match v with | .slice _ n _ => n | _ => 0)
  case atStart => exact ⟨a, a.length, HA.out, Nat.le_refl _, Nat.le_refl _, Lib.hid rfl⟩
  case round =>
    obtain ⟨l, f, hp, hlf, hla, HT⟩ := hrel
    have HP := Lib.hid hp
    obtain ⟨g, off, cap, rfl, hcap, hg, hc⟩ := hp
    by_cases h1 : 1 < l.length
    · have h1' : (1 : Int) < (l.length : Int) := by omega
      have c1 := hc (l.length - 1) (by omega)
      obtain ⟨n, hn⟩ : ∃ n, l.length = n + 1 := ⟨l.length - 1, by omega⟩
      have HN := Lib.hid hn
      have hni : (l.length : Int) - 1 = (n : Int) := by omega
      have hn1 : l.length - 1 = n := by omega
      rw [hn1] at c1
      have hnl : (n : Int) < (l.length : Int) := by omega
      obtain ⟨f', rfl⟩ : ∃ f', f = f' + 1 := ⟨f - 1, by omega⟩
      have ht := HT.out
      rw [trimGo, hn1] at ht
      by_cases h2 : l.getD n 0 = 0
      · rw [if_pos ⟨h1, h2⟩] at ht
        have hfr := HP.out.front (by omega)
        rw [hn1] at hfr
        have HFR := Lib.hid hfr
        rw [h2] at c1
        have HT' := Lib.hid ht
        have hnc : (n : Int) ≤ (cap : Int) := by omega
        clear hc hn hn1 ht hfr h2 HT
        go_wp2_with fail
        go_round
        case rel => exact ⟨l.dropLast, f', HFR.out, by simp; omega, by simp; omega, HT'⟩
        case measure => have := HN.out; simp; omega
      · rw [if_neg (fun h => h2 h.2)] at ht
        have g1 : (l.getD n 0 == 0) = false := by rw [beq_eq_false_iff_ne]; exact h2
        have HT' := Lib.hid ht
        generalize l.getD n 0 = x at *
        clear hc hn hn1 ht h2 HT
        go_wp2_with fail
        go_ret
        exact ⟨_, rfl, by rw [← HT'.out]; exact HP.out, rfl⟩
    · have h1' : ¬ (1 : Int) < (l.length : Int) := by omega
      have ht : l = ptrim a := by
        have ht := HT.out
        cases f with
        | zero => exact ht
        | succ f => rw [trimGo, if_neg (fun h => h1 h.1)] at ht; exact ht
      have HT' := Lib.hid ht
      clear hc ht HT h1
      go_wp2_with fail
      go_ret
      exact ⟨_, rfl, by rw [← HT'.out]; exact HP.out, rfl⟩
end Go.Proofs.Ytdckpjagmbdkgaa

/- The polynomials of package tiles: sums, products, quotients. -/
namespace Go.Proofs.Ytdckpjagmbdkgaa
set_option linter.unusedSimpArgs false
set_option linter.unusedVariables false
open Go.RowKit
open HySer (addAt subAt pplus ptimes timesGo length_addAt length_subAt length_timesGo length_pplus length_ptimes)

theorem IQ.of_block {k : IntKind} {w : World} {g : Nat} {l : List Int} {t : TypeId} (h : w.heap[g]? = some (.cells (nums k l).toArray t (0, 0))) (n : Nat) (hn : n = l.length) (hm : n ≤ maxLen) : IQ k w g (.slice (some ⟨g, 0, none⟩) n n) l := by
  subst hn
  have hc := fun j => cell_of_heap h j
  refine ⟨0, l.length, rfl, Nat.le_refl _, hm, by simp, fun j u hj => ?_, fun j hj => ⟨?_, free_of_heap h _⟩, (Array.getElem?_eq_some_iff.1 h).1⟩
  · rw [hc]
    simpa using hj
  · rw [hc]
    have : j < l.length := by omega
    simp [nums, this]

theorem addAt_succ (out : List Int) (off : Nat) (k : Int) (b : List Int) (j : Nat) : addAt out off k b (j + 1) = (addAt out off k b j).modify (off + j) (fun a => wrap64 (a + wrap64 (k * b.getD j 0))) := rfl
theorem subAt_succ (out : List Int) (off : Nat) (k : Int) (b : List Int) (j : Nat) : subAt out off k b (j + 1) = (subAt out off k b j).modify (off + j) (fun a => wrap64 (a - wrap64 (k * b.getD j 0))) := rfl

theorem Own1.addAt {w wr : World} {g off n cap o : Nat} {k : Int} {out b : List Int} {j : Nat} (h : Own1 w wr g (.slice (some ⟨g, off, none⟩) n cap) (addAt out o k b j)) (hj : o + j < out.length) {x : Int} (hx : x = wrap64 ((HySer.addAt out o k b j).getD (o + j) 0 + wrap64 (k * b.getD j 0))) {p : Nat} (hp : p = off + (o + j)) :
    Own1 w (wr.setCell ⟨g, p, none⟩ (.int .i64 x)) g (.slice (some ⟨g, off, none⟩) n cap) (HySer.addAt out o k b (j + 1)) := by
  subst hp
  rw [addAt_succ]
  exact h.modify (by rw [length_addAt]; exact hj) _ hx
theorem Own1.subAt {w wr : World} {g off n cap o : Nat} {k : Int} {out b : List Int} {j : Nat} (h : Own1 w wr g (.slice (some ⟨g, off, none⟩) n cap) (subAt out o k b j)) (hj : o + j < out.length) {x : Int} (hx : x = wrap64 ((HySer.subAt out o k b j).getD (o + j) 0 - wrap64 (k * b.getD j 0))) {p : Nat} (hp : p = off + (o + j)) :
    Own1 w (wr.setCell ⟨g, p, none⟩ (.int .i64 x)) g (.slice (some ⟨g, off, none⟩) n cap) (HySer.subAt out o k b (j + 1)) := by
  subst hp
  rw [subAt_succ]
  exact h.modify (by rw [length_subAt]; exact hj) _ hx

theorem pplus_le {a b : List Int} (k : Int) (h : b.length ≤ a.length) : pplus a b k = addAt a 0 k b b.length := by
  unfold pplus
  rw [Nat.max_eq_left h, Nat.sub_self, List.replicate_zero, List.append_nil]

set_option maxRecDepth 100000 in
set_option maxHeartbeats 2000000 in
theorem t04_plus {w : World} {va vb : Value} {a b : List Int} (ha : PR .i64 w va a) (hb : PR .i64 w vb b) (hla : a.length ≤ 100000) (hab : b.length ≤ a.length) (k : Int) :
    Calls Try.prog 60 #[va, vb, .int .i64 k] w (NewI (pplus a b k) w) := by
  rw [pplus_le k hab]
  obtain ⟨ga, oa, ca, rfl, hcapa, hga, hcella⟩ := ha
  obtain ⟨gb, ob, cb, rfl, hcapb, hgb, hcellb⟩ := hb
  have hmk := make_ints w a.length (by omega)
  have habi : ¬ (a.length : Int) < (b.length : Int) := by omega
  have HA := Lib.hid hcella
  have HBB := Lib.hid hcellb
  clear hcella hcellb
  go_enter Try.func60, Try.ntmps60
  go_upto_region 2 with fail
  clear hmk
  have HCUR := Lib.hid (show (w.alloc (.cells (Array.replicate a.length (.int .i64 0)) 3)).heap[w.heap.size]? = some (.cells (List.replicate a.length (Value.int .i64 0)).toArray 3 (0, 0)) from by rw [show (List.replicate a.length (Value.int .i64 0)).toArray = Array.replicate a.length (Value.int .i64 0) from by simp]; exact alloc_heap_new w _)
  have HB0 := Lib.hid (((Below.refl _ w).alloc (Nat.le_refl _) (.cells (Array.replicate a.length (Value.int .i64 0)) 3)))
  generalize w.alloc (.cells (Array.replicate a.length (.int .i64 0)) 3) = W1 at *
  go_wp2_with (with_reducible refine wpList_copy_splice rfl (.tmp 16) (.tmp 17) 63 63 rfl 3 Try.underlying63 (by kernel_rfl) (some ⟨w.heap.size, 0, none⟩) (some ⟨ga, oa, none⟩) a.length a.length a.length ca rfl rfl w.heap.size 0 (List.replicate a.length (.int .i64 0)) 3 HCUR.out (nums .i64 a) ?c1 ?c2 ?c3 ?c4 w.heap.size w HB0.out (Nat.le_refl _) ?_)
  case c2 =>
    intro _ j x hj
    obtain ⟨hjl, rfl⟩ := List.getElem?_eq_some_iff.1 hj
    rw [HB0.out.cell (p := ⟨ga, oa + j, none⟩) hga, HA.out j hjl]
    simp [List.getD, List.getElem?_eq_getElem hjl]
  case c4 => intro x _; rfl
  intro w2 hh hb2
  have hsp : splice (List.replicate a.length (Value.int .i64 0)) 0 (nums .i64 a) = nums .i64 a := by simp [splice, nums]
  rw [hsp] at hh
  have H0 := Lib.hid (show Own1 w w2 w.heap.size (.slice (some ⟨w.heap.size, 0, none⟩) a.length a.length) (addAt a 0 k b 0) from ⟨IQ.of_block hh.out a.length rfl (by unfold maxLen; omega), Nat.le_refl _, hb2⟩)
  clear hh hb2 hsp HCUR HB0
  go_wp2_with fail
  go_loopw [21] (fun i wr => ∃ j : Nat, i = .int .i64 j ∧ j ≤ b.length ∧ Hid (Own1 w wr w.heap.size (.slice (some ⟨w.heap.size, 0, none⟩) a.length a.length) (addAt a 0 k b j))) (fun i _ => b.length - (intOf i).toNat)
  case atStart => exact ⟨0, rfl, Nat.zero_le _, H0⟩
  case round =>
    clear H0
    obtain ⟨j, rfl, hj, HO⟩ := hrel
    by_cases hlt : j < b.length
    · obtain ⟨-, hc, hf⟩ := HO.out.q.at
      have c1 := hc j (by rw [length_addAt]; omega)
      have f1 := hf j (by rw [length_addAt]; omega)
      have r1 := (HO.out.read (o := ob + j) hgb).trans (HBB.out j hlt)
      rw [Nat.zero_add] at c1 f1
      have hji : (j : Int) < (b.length : Int) := by omega
      have hja : (j : Int) < (a.length : Int) := by omega
      obtain ⟨cur, hcur⟩ : ∃ cur, cur = (addAt a 0 k b j).getD j 0 := ⟨_, rfl⟩
      rw [← hcur] at c1
      have HCU := Lib.hid hcur
      obtain ⟨y, hy⟩ : ∃ y, y = b.getD j 0 := ⟨_, rfl⟩
      rw [← hy] at r1
      have HY := Lib.hid hy
      clear hc hf hcur hy
      go_wp2_with fail
      go_roundw
      case rel => exact ⟨j + 1, by go_num, by omega, Lib.hid (HO.out.addAt (by omega) (by rw [HCU.out, HY.out, Nat.zero_add]) (by omega))⟩
      case measure => simp [intOf]; omega
    · obtain rfl : j = b.length := by omega
      clear hlt hj
      go_wp2_with fail
      go_ret
      exact HO.out.new

theorem timesGo_succ (a b : List Int) (i : Nat) : timesGo a b (i + 1) = addAt (timesGo a b i) i (a.getD i 0) b b.length := rfl

set_option maxRecDepth 100000 in
set_option maxHeartbeats 2000000 in
theorem t04_times {w : World} {va vb : Value} {a b : List Int} (ha : PR .i64 w va a) (hb : PR .i64 w vb b) (hla : a.length ≤ 100000) (hlb : b.length ≤ 100000) (h0a : 0 < a.length) (h0b : 0 < b.length) :
    Calls Try.prog 58 #[va, vb] w (NewI (ptimes a b) w) := by
  obtain ⟨ga, oa, ca, rfl, hcapa, hga, hcella⟩ := ha
  obtain ⟨gb, ob, cb, rfl, hcapb, hgb, hcellb⟩ := hb
  obtain ⟨n, hn⟩ : ∃ n, n = a.length + b.length - 1 := ⟨_, rfl⟩
  have hmk := make_ints w n (by omega)
  have hni : (a.length : Int) + (b.length : Int) - 1 = (n : Int) := by omega
  have HN := Lib.hid hn
  have H0 := Lib.hid (Own1.make w n (by omega))
  have HA := Lib.hid hcella
  have HBB := Lib.hid hcellb
  clear hcella hcellb hn
  go_enter Try.func58, Try.ntmps58
  go_wp2_with fail
  clear hmk
  generalize w.alloc (.cells (Array.replicate n (.int .i64 0)) 3) = W1 at *
  go_loopw [19] (fun i wr => ∃ k : Nat, i = .int .i64 k ∧ k ≤ a.length ∧ Hid (Own1 w wr w.heap.size (.slice (some ⟨w.heap.size, 0, none⟩) n n) (timesGo a b k))) (fun i _ => a.length - (intOf i).toNat)
  case atStart => exact ⟨0, rfl, Nat.zero_le _, Lib.hid (by have h := H0.out; rw [HN.out] at h ⊢; exact h)⟩
  case round =>
    clear H0
    obtain ⟨k, rfl, hk, HO⟩ := hrel
    by_cases hlt : k < a.length
    · have r1 := (HO.out.read (o := oa + k) hga).trans (HA.out k hlt)
      have hki : (k : Int) < (a.length : Int) := by omega
      obtain ⟨x, hx⟩ : ∃ x, x = a.getD k 0 := ⟨_, rfl⟩
      rw [← hx] at r1
      have HX := Lib.hid hx
      clear hx
      go_wp2_with fail
      obtain ⟨wo, hwo⟩ : ∃ wo : World, wo = wr := ⟨_, rfl⟩
      have HWO := Lib.hid hwo; clear hwo
      go_loopw [26] (fun i wq => ∃ j : Nat, i = .int .i64 j ∧ j ≤ b.length ∧ Hid (Own1 w wq w.heap.size (.slice (some ⟨w.heap.size, 0, none⟩) n n) (addAt (timesGo a b k) k x b j))) (fun i _ => b.length - (intOf i).toNat)
      case atStart => exact ⟨0, rfl, Nat.zero_le _, HO⟩
      case round =>
        clear HO r1
        obtain ⟨j, rfl, hj, HQ⟩ := hrel
        by_cases hjl : j < b.length
        · obtain ⟨-, hc, hf⟩ := HQ.out.q.at
          have hlen : (timesGo a b k).length = n := by rw [length_timesGo]; exact HN.out.symm
          have hkj : k + j < n := by have := HN.out; omega
          have c1 := hc (k + j) (by rw [length_addAt, hlen]; exact hkj)
          have f1 := hf (k + j) (by rw [length_addAt, hlen]; exact hkj)
          have r2 := (HQ.out.read (o := ob + j) hgb).trans (HBB.out j hjl)
          rw [Nat.zero_add] at c1 f1
          have hji : (j : Int) < (b.length : Int) := by omega
          obtain ⟨q, hq⟩ : ∃ q, q = k + j := ⟨_, rfl⟩
          have hqi : (k : Int) + (j : Int) = (q : Int) := by omega
          have hqn : (q : Int) < (n : Int) := by omega
          rw [← hq] at c1 f1
          have HQE := Lib.hid hq
          obtain ⟨cur, hcur⟩ : ∃ cur, cur = (addAt (timesGo a b k) k x b j).getD q 0 := ⟨_, rfl⟩
          rw [← hcur] at c1
          have HCU := Lib.hid hcur
          obtain ⟨y, hy⟩ : ∃ y, y = b.getD j 0 := ⟨_, rfl⟩
          rw [← hy] at r2
          have HY := Lib.hid hy
          have HKJ := Lib.hid hkj
          have HLN := Lib.hid hlen
          clear hc hf hcur hy hq hkj hlen
          go_wp2_with fail
          go_roundw
          case rel => exact ⟨j + 1, by go_num, by omega, Lib.hid (HQ.out.addAt (by rw [HLN.out]; exact HKJ.out) (by rw [HCU.out, HY.out, HQE.out]) (by rw [HQE.out]; omega))⟩
          case measure => simp [intOf]; omega
        · obtain rfl : j = b.length := by omega
          clear hjl hj
          go_wp2_with fail
          go_roundw
          case rel => exact ⟨k + 1, by go_num, by omega, Lib.hid (by rw [timesGo_succ, ← HX.out]; exact HQ.out)⟩
          case measure => simp [intOf]; omega
    · obtain rfl : k = a.length := by omega
      clear hlt hk
      go_wp2_with fail
      go_ret
      exact HO.out.new
end Go.Proofs.Ytdckpjagmbdkgaa

/- The polynomials of package tiles: the quotient. -/
namespace Go.Proofs.Ytdckpjagmbdkgaa
set_option linter.unusedSimpArgs false
set_option linter.unusedVariables false
open Go.RowKit
open HySer (addAt subAt overGo pover length_addAt length_subAt)

theorem rowInt : RowType Try.prog 63 3 1 := rowType_of (z := .int .i64 0) Try.underlying63 infoInt rfl (by decide) (by decide)

theorem nums_one (k : IntKind) (l : List Int) : ∀ u ∈ nums k l, u.oneCell' = true := by
  intro u hu
  simp only [nums, List.mem_map] at hu
  obtain ⟨x, _, rfl⟩ := hu
  rfl

theorem PR.src {w : World} {v : Value} {l : List Int} (h : PR .i64 w v l) (W' : World) (hW : ∀ g, g < w.heap.size → W'.heap[g]? = w.heap[g]?) : Src Try.prog 1 63 v l.length (nums .i64 l) W' := by
  obtain ⟨g, off, cap, rfl, h2, h3, h4⟩ := h
  refine Src.ofSlice W' Try.underlying63 ⟨g, off, none⟩ l.length cap (nums .i64 l) (by simp [nums]) (fun j u hj => ?_) (nums_one _ _)
  have hjl : j < l.length := by
    have := (List.getElem?_eq_some_iff.1 hj).1
    simpa [nums] using this
  rw [Addr.add_lit, World.cell?_of_block (w := w) (a := ⟨g, off + j, none⟩) (hW g h3), h4 j hjl, ← nums_getD hjl, hj]

/-- Two slices of the call's own. -/
structure Own2 (w wr : World) (g : Nat) (v : Value) (l : List Int) (g' : Nat) (v' : Value) (l' : List Int) : Prop where
  one : Own1 w wr g v l
  two : Own1 w wr g' v' l'
  ne : g ≠ g'

theorem IQ.other {k : IntKind} {w : World} {g b o : Nat} {v u : Value} {l : List Int} (h : IQ k w g v l) (hn : g ≠ b) : IQ k (w.setCell ⟨b, o, none⟩ u) g v l :=
  h.of_heap ((only_one w b o u).block g hn) (by simp)

theorem Own2.set1 {w wr : World} {g off n cap : Nat} {l : List Int} {g' : Nat} {v' : Value} {l' : List Int} (h : Own2 w wr g (.slice (some ⟨g, off, none⟩) n cap) l g' v' l') {p : Nat} {x : Int} {l2 : List Int} (h1 : Own1 w (wr.setCell ⟨g, p, none⟩ (.int .i64 x)) g (.slice (some ⟨g, off, none⟩) n cap) l2) : Own2 w (wr.setCell ⟨g, p, none⟩ (.int .i64 x)) g (.slice (some ⟨g, off, none⟩) n cap) l2 g' v' l' :=
  ⟨h1, ⟨h.two.q.other (Ne.symm h.ne), h.two.ge, h1.below⟩, h.ne⟩
theorem Own2.set2 {w wr : World} {g off n cap : Nat} {l : List Int} {g' : Nat} {v' : Value} {l' : List Int} (h : Own2 w wr g' v' l' g (.slice (some ⟨g, off, none⟩) n cap) l) {p : Nat} {x : Int} {l2 : List Int} (h1 : Own1 w (wr.setCell ⟨g, p, none⟩ (.int .i64 x)) g (.slice (some ⟨g, off, none⟩) n cap) l2) : Own2 w (wr.setCell ⟨g, p, none⟩ (.int .i64 x)) g' v' l' g (.slice (some ⟨g, off, none⟩) n cap) l2 :=
  ⟨⟨h.one.q.other h.ne, h.one.ge, h1.below⟩, h1, h.ne⟩

theorem Own1.drew {w wr : World} {g : Nat} {v : Value} {l : List Int} (h : Own1 w wr g v l) : Own1 w wr.drew g v l := ⟨h.q.of_heap rfl (Nat.le_refl _), h.ge, h.below.drew⟩
theorem Own2.drew {w wr : World} {g : Nat} {v : Value} {l : List Int} {g' : Nat} {v' : Value} {l' : List Int} (h : Own2 w wr g v l g' v' l') : Own2 w wr.drew g v l g' v' l' := ⟨h.one.drew, h.two.drew, h.ne⟩

def OverPost (a b : List Int) (w : World) (e : Ending) (w' : World) : Prop :=
  Below w.heap.size w w' ∧ ((pover a b = none ∧ e = .returned (.tuple #[.slice none 0 0, .bool false])) ∨ ∃ q g v, pover a b = some q ∧ e = .returned (.tuple #[v, .bool true]) ∧ IQ .i64 w' g v q ∧ w.heap.size ≤ g)

set_option maxRecDepth 100000 in
set_option maxHeartbeats 4000000 in
theorem t04_over {w : World} {va vb : Value} {a b : List Int} (ha : PR .i64 w va a) (hb : PR .i64 w vb b) (hla : a.length ≤ 100000) (hlb : b.length ≤ 100000) (h0b : 0 < b.length) :
    Calls Try.prog 61 #[va, vb] w (OverPost a b w) := by
  have HSRC := Lib.hid (ha.src (w.alloc (.cells #[] 3)) (fun g hg => ((Below.refl _ w).alloc (Nat.le_refl _) _).block g hg))
  obtain ⟨ga, oa, ca, rfl, hcapa, hga, hcella⟩ := ha
  obtain ⟨gb, ob, cb, rfl, hcapb, hgb, hcellb⟩ := hb
  have HA := Lib.hid hcella
  have HBB := Lib.hid hcellb
  clear hcella hcellb
  have HQ0 := Lib.hid (QRow.new w [] 0 1 3 rfl (by unfold maxLen; omega))
  go_enter Try.func61, Try.ntmps61
  go_wp2_with (at_builtin; refine wpList_queueSrc rowInt rfl _ _ rfl rfl HQ0.out rfl HSRC.out ?c3 ?_)
  case c3 => omega
  intro v3 w3 g3 hq3 ho3 hn3
  try rw [List.nil_append, Nat.zero_add] at hq3
  have HO3 := Lib.hid (show Own1 w w3 g3 v3 a from ⟨hq3, by rcases hn3 with h | h <;> (try simp at h) <;> omega, ((Below.refl _ w).alloc (Nat.le_refl _) _).trans (ho3.below (fun k hk => by rcases hk with h | h <;> (try simp at h) <;> omega))⟩)
  clear hq3 ho3 hn3 HSRC HQ0
  by_cases hlt : a.length < b.length
  · have hlti : (a.length : Int) < (b.length : Int) := by omega
    have hp : pover a b = none := by unfold pover; rw [if_pos hlt]
    have HP := Lib.hid hp
    clear hp hlt
    go_wp2_with fail
    go_ret2
    exact ⟨HO3.out.below, .inl ⟨HP.out, rfl⟩⟩
  have hlti : ¬ (a.length : Int) < (b.length : Int) := by omega
  obtain ⟨n, hn⟩ : ∃ n, n = a.length - b.length + 1 := ⟨_, rfl⟩
  have hni : (a.length : Int) - (b.length : Int) + 1 = (n : Int) := by omega
  have hmk := make_ints w3 n (by omega)
  have HM := Lib.hid (Own1.make w3 n (by omega))
  have HN := Lib.hid hn
  have HLT := Lib.hid hlt
  have hn0 : 1 ≤ n := by omega
  clear hn hlt
  go_wp2_with fail
  clear hmk
  have HO4 := Lib.hid (show Own2 w (w3.alloc (.cells (Array.replicate n (.int .i64 0)) 3)) g3 v3 a w3.heap.size (.slice (some ⟨w3.heap.size, 0, none⟩) n n) (List.replicate n 0) from
    ⟨⟨HO3.out.q.later ((Below.refl _ _).alloc (Nat.le_refl _) _), HO3.out.ge, HO3.out.below.alloc HO3.out.below.size _⟩, ⟨HM.out.q, HO3.out.below.size, HO3.out.below.alloc HO3.out.below.size _⟩, by have := HO3.out.q.lt; omega⟩)
  clear HO3 HM
  generalize w3.alloc (.cells (Array.replicate n (.int .i64 0)) 3) = W4 at *
  generalize w3.heap.size = g4 at *
  obtain ⟨o3, c3, rfl, _⟩ := HO4.out.one.q.open
  go_loopw [8] (fun i wr => ∃ (r : Nat) (rest out : List Int), i = .int .i64 ((r : Int) - 1) ∧ r ≤ n ∧ rest.length = a.length ∧ out.length = n ∧ Hid (Own2 w wr g3 (.slice (some ⟨g3, o3, none⟩) a.length c3) rest g4 (.slice (some ⟨g4, 0, none⟩) n n) out) ∧ Hid (overGo b r rest out = overGo b n a (List.replicate n 0))) (fun i _ => (intOf i + 1).toNat)
  case atStart => exact ⟨n, a, List.replicate n 0, rfl, Nat.le_refl _, rfl, by simp, HO4, Lib.hid rfl⟩
  case round =>
    clear HO4
    obtain ⟨r, rest, out, rfl, hr, hrl, hol, HO, HG⟩ := hrel
    cases r with
    | succ k =>
      have e1 : ((k + 1 : Nat) : Int) - 1 = (k : Int) := by omega
      rw [e1]
      obtain ⟨q, hq⟩ : ∃ q, q = k + b.length - 1 := ⟨_, rfl⟩
      have hqi : (k : Int) + (b.length : Int) - 1 = (q : Int) := by omega
      have hql : q < rest.length := by have := HN.out; have := HLT.out; omega
      have hqa : (q : Int) < (a.length : Int) := by omega
      obtain ⟨c, hc⟩ : ∃ c, c = rest.getD q 0 := ⟨_, rfl⟩
      obtain ⟨-, hc1, -⟩ := HO.out.one.q.at
      have c1 := hc1 q hql
      rw [← hc] at c1
      obtain ⟨-, hc2, hf2⟩ := HO.out.two.q.at
      have c2 := hc2 k (by omega)
      have f2 := hf2 k (by omega)
      rw [Nat.zero_add] at c2 f2
      have hs := HO.out.set2 (HO.out.two.set (j := k) (by omega) c)
      rw [Nat.zero_add] at hs
      have hk0 : (0 : Int) ≤ (k : Int) := by omega
      have hkn : (k : Int) < (n : Int) := by omega
      have HG' : Hid (overGo b k (subAt rest k c b b.length) (out.set k c) = overGo b n a (List.replicate n 0)) := Lib.hid (by rw [← HG.out, hc, hq]; rfl)
      have HS := Lib.hid hs
      have HQQ := Lib.hid hq
      clear hq hc hc1 hc2 hf2 hs HG HO
      go_wp2_with fail
      generalize hwo : wr.setCell ⟨g4, k, none⟩ (.int .i64 c) = wo at *
      clear hwo c1 c2 f2
      go_loopw [48] (fun i wq => ∃ j : Nat, i = .int .i64 j ∧ j ≤ b.length ∧ Hid (Own2 w wq g3 (.slice (some ⟨g3, o3, none⟩) a.length c3) (subAt rest k c b j) g4 (.slice (some ⟨g4, 0, none⟩) n n) (out.set k c))) (fun i _ => b.length - (intOf i).toNat)
      case atStart => exact ⟨0, rfl, Nat.zero_le _, HS⟩
      case round =>
        clear HS
        obtain ⟨j, rfl, hj, HQ⟩ := hrel
        by_cases hjl : j < b.length
        · obtain ⟨-, hc1, hf1⟩ := HQ.out.one.q.at
          obtain ⟨-, hc2, -⟩ := HQ.out.two.q.at
          obtain ⟨m, hm⟩ : ∃ m, m = k + j := ⟨_, rfl⟩
          have hmi : (k : Int) + (j : Int) = (m : Int) := by omega
          have hml : m < rest.length := by have := HQQ.out; omega
          have hma : (m : Int) < (a.length : Int) := by omega
          have d1 := hc1 m (by rw [length_subAt]; exact hml)
          have f1 := hf1 m (by rw [length_subAt]; exact hml)
          have d2 := hc2 k (by simp; omega)
          rw [Nat.zero_add] at d2
          have e2 : (out.set k c).getD k 0 = c := by simp [List.getD, show k < out.length from by omega]
          rw [e2] at d2
          have r2 := (HQ.out.one.read (o := ob + j) hgb).trans (HBB.out j hjl)
          have hji : (j : Int) < (b.length : Int) := by omega
          obtain ⟨cur, hcur⟩ : ∃ cur, cur = (subAt rest k c b j).getD m 0 := ⟨_, rfl⟩
          rw [← hcur] at d1
          obtain ⟨y, hy⟩ : ∃ y, y = b.getD j 0 := ⟨_, rfl⟩
          rw [← hy] at r2
          have HS : Hid (Own2 w (wr.setCell ⟨g3, o3 + m, none⟩ (.int .i64 (wrap64 (cur - wrap64 (c * y))))) g3 (.slice (some ⟨g3, o3, none⟩) a.length c3) (subAt rest k c b (j + 1)) g4 (.slice (some ⟨g4, 0, none⟩) n n) (out.set k c)) := Lib.hid (HQ.out.set1 (HQ.out.one.subAt (by omega) (by rw [hcur, hy, hm]) (by rw [hm])))
          clear hc1 hf1 hc2 e2 hcur hy hm HQ
          go_wp2_with fail
          go_region
          all_goals go_wp2_with fail
          all_goals go_roundw
          case rel => exact ⟨j + 1, by go_num, by omega, Lib.hid HS.out.drew⟩
          case measure => simp [intOf]; omega
        · obtain rfl : j = b.length := by omega
          clear hjl hj
          go_wp2_with fail
          go_roundw
          case rel => exact ⟨k, subAt rest k c b b.length, out.set k c, rfl, by omega, by rw [length_subAt]; exact hrl, by simp [hol], HQ, HG'⟩
          case measure => simp [intOf]
    | zero =>
      have e1 : ((0 : Nat) : Int) - 1 = -1 := rfl
      rw [e1]
      obtain ⟨-, hc1, -⟩ := HO.out.one.q.at
      have HC := Lib.hid hc1
      clear hc1
      have hpo : pover a b = if rest.all (· == 0) then some out else none := by
        have h := HG.out
        have h2 : overGo b 0 rest out = (rest, out) := rfl
        rw [h2] at h
        have hl := HLT.out
        have hn := HN.out
        unfold pover
        rw [if_neg hl, ← hn, ← h]
      have HP := Lib.hid hpo
      clear hpo
      go_wp2_with fail
      go_loop [70] (fun i => ∃ j : Nat, i = .int .i64 j ∧ j ≤ a.length ∧ ∀ p, p < j → rest.getD p 0 = 0) (fun i => a.length - (intOf i).toNat)
      case atStart => exact ⟨0, rfl, Nat.zero_le _, fun p hp => by omega⟩
      case round =>
        obtain ⟨j, rfl, hj, hz⟩ := hrel
        have HZ := Lib.hid hz
        clear hz
        by_cases hjl : j < a.length
        · have c1 := HC.out j (by omega)
          have hji : (j : Int) < (a.length : Int) := by omega
          by_cases h0 : rest.getD j 0 = 0
          · rw [h0] at c1
            have H0 := Lib.hid h0
            clear h0
            go_wp2_with fail
            go_round
            case rel =>
              refine ⟨j + 1, by go_num, by omega, fun p hp => ?_⟩
              by_cases hpj : p < j
              · exact HZ.out p hpj
              · obtain rfl : p = j := by omega
                exact H0.out
            case measure => simp [intOf]; omega
          · have g1 : (rest.getD j 0 != 0) = true := by rw [bne_iff_ne]; exact h0
            have hpn : pover a b = none := by
              rw [HP.out, if_neg]
              intro h
              have := List.all_eq_true.1 h (rest[j]'(by omega)) (List.getElem_mem _)
              apply h0
              simp at this
              simp [List.getD, List.getElem?_eq_getElem (show j < rest.length by omega), this]
            have HPN := Lib.hid hpn
            generalize rest.getD j 0 = x at *
            clear h0 hpn
            go_wp2_with fail
            go_ret2
            exact ⟨HO.out.one.below, .inl ⟨HPN.out, rfl⟩⟩
        · obtain rfl : j = a.length := by omega
          have hps : pover a b = some out := by
            rw [HP.out, if_pos]
            rw [List.all_eq_true]
            intro x hx
            obtain ⟨i, hi, rfl⟩ := List.getElem_of_mem hx
            have := HZ.out i (by omega)
            simpa [List.getD, List.getElem?_eq_getElem hi] using this
          have HPS := Lib.hid hps
          clear hps hjl hj
          go_wp2_with fail
          go_ret2
          exact ⟨HO.out.one.below, .inr ⟨out, g4, _, HPS.out, rfl, HO.out.two.q, HO.out.two.ge⟩⟩
end Go.Proofs.Ytdckpjagmbdkgaa

/- A list that grows from nothing; the circles' polynomials. -/
namespace Go.Proofs.Ytdckpjagmbdkgaa
set_option linter.unusedSimpArgs false
set_option linter.unusedVariables false
open Go.RowKit

/-- A list of values of one cell: none yet, or a row of the call's own. -/
def GQ (w : World) (v : Value) (xs : List Value) : Prop := (v = .slice none 0 0 ∧ xs = []) ∨ ∃ g, QRow w g 1 v xs.length xs

theorem GQ.later {w w' : World} {v : Value} {xs : List Value} (h : GQ w v xs) (hb : Below w.heap.size w w') : GQ w' v xs := by
  rcases h with h | ⟨g, h⟩
  · exact .inl h
  · exact .inr ⟨g, h.later hb⟩

section
variable {P : Program}
theorem wpList_gq1 (w : World) {ops : Array Oper} {rest : List Oper} {o : Oper} {a : Act} {Q : Exit → Act → World → Prop} {t e : TypeId} (R : RowType P t e 1) (hgd : o.guard = none) (s x : Operand)
    (ho : o.op = .call { callee := .builtin .append, args := #[s, x], argTypes := #[t, t] }) {v : Value} {xs : List Value} (hs : a.eval s = v) (hq : GQ w v xs) (ty : TypeId) (u : Value)
    (hx : a.eval x = .slice (some ⟨w.heap.size, 0, none⟩) 1 1) (h1 : u.oneCell' = true) (hn : xs.length ≤ 900000000)
    (hK : ∀ v' w', GQ w' v' (xs ++ [u]) → Only (fun k => v.ownBlock = some k ∨ w.heap.size ≤ k) w w' → (∀ b, v'.ownBlock = some b → v.ownBlock = some b ∨ w.heap.size ≤ b) → wpList P ops Q rest (a.put o.dst v') w') : wpList P ops Q (o :: rest) a (w.alloc (.cells #[u] ty)) := by
  rcases hq with ⟨rfl, rfl⟩ | ⟨g, hq⟩
  · have hown : w.ownsRow w.heap.size e 1 (.slice none 0 0) 0 [] := World.ownsRow_nil _ _ _ _
    refine wpList_grow1 w R hgd s x ho (base := w.heap.size) hs hown ty [u] hx rfl (fun y hy => by simp at hy; subst hy; exact h1) (by omega) (Nat.le_refl _) ?_
    intro v' w' h2 h3
    obtain ⟨g, hg, hq⟩ := QRow.ofOwns h2 (by omega)
    refine hK v' w' (.inr ⟨g, hq⟩) ⟨h3.os, h3.tape, h3.output, h3.size, fun k hk => h3.block k (by
      rcases Nat.lt_or_ge k w.heap.size with h | h
      · exact h
      · exact absurd (.inr h) hk)⟩ (fun b hb => ?_)
    obtain ⟨off, cap, rfl, _⟩ := hq
    simp [Value.ownBlock] at hb
    omega
  · refine wpList_queueSrc_grow1 R hgd s x ho hs hq 1 [u] ty hx rfl (fun y hy => by simp at hy; subst hy; exact h1) (by omega) ?_
    intro v' w' g' h2 h3 h4
    have hv : v.ownBlock = some g := by obtain ⟨off, cap, rfl, _⟩ := hq; rfl
    refine hK v' w' (.inr ⟨g', by simpa using h2⟩) (h3.mono (fun k hk => by
      rcases hk with rfl | hk
      · exact .inl hv
      · exact .inr hk)) (fun b hb => ?_)
    obtain ⟨off, cap, rfl, _⟩ := h2
    simp [Value.ownBlock] at hb
    subst hb
    rcases h4 with rfl | h4
    · exact .inl hv
    · exact .inr h4
end

/-- A slice stays where its block does. -/
theorem PR.only {k : IntKind} {w w' : World} {v : Value} {l : List Int} (h : PR k w v l) {B : Nat → Prop} (ho : Only B w w') (hB : ∀ b, v.ownBlock = some b → ¬ B b) : PR k w' v l := by
  obtain ⟨g, off, cap, rfl, h2, h3, h4⟩ := h
  have := ho.block g (hB g rfl)
  exact ⟨g, off, cap, rfl, h2, Nat.lt_of_lt_of_le h3 ho.size, fun j hj => by rw [World.cell?_of_block (w := w) (a := ⟨g, off + j, none⟩) this]; exact h4 j hj⟩
end Go.Proofs.Ytdckpjagmbdkgaa

/- The circles' polynomials of package tiles. -/
namespace Go.Proofs.Ytdckpjagmbdkgaa
set_option linter.unusedSimpArgs false
set_option linter.unusedVariables false
open Go.RowKit
open HySer (ones pover circs circStep)

/-- Behind the first d polynomials. -/
def circGo (k : Nat) (out : List (List Int)) (d : Nat) : List Int := ((out.zipIdx).take d).foldl (fun p q => if k % (q.2 + 2) = 0 then (pover p q.1).getD [] else p) (ones k)
theorem circGo_succ {k d : Nat} {out : List (List Int)} (hd : d < out.length) : circGo k out (d + 1) = if k % (d + 2) = 0 then (pover (circGo k out d) out[d]).getD [] else circGo k out d := by
  unfold circGo
  have hz : d < (out.zipIdx).length := by simpa using hd
  rw [List.take_succ_eq_append_getElem hz, List.foldl_append]
  simp
theorem circGo_all (k : Nat) (out : List (List Int)) : circGo k out out.length = circStep k out := by
  unfold circGo circStep
  rw [List.take_of_length_le (by simp)]
theorem length_circs : ∀ k, (circs k).length = k
  | 0 => rfl
  | k + 1 => by rw [circs, List.length_append, length_circs k]; rfl
theorem circs_get {k i : Nat} (hi : i < k) : (circs (k + 1)).getD i [] = (circs k).getD i [] := by
  rw [circs]
  simp [List.getD, List.getElem?_append, length_circs, hi]
theorem circs_last (k : Nat) : (circs (k + 1)).getD k [] = circStep (k + 2) (circs k) := by
  rw [circs]
  simp [List.getD, List.getElem?_append, length_circs]

def circOk (k d : Nat) : Bool :=
  let p := circGo (k + 2) (circs k) d
  let q := (circs k).getD d []
  p.length != 0 && decide (p.length ≤ 20) && q.length != 0 && decide (q.length ≤ 20) && ((k + 2) % (d + 2) != 0 || (pover p q).isSome)
theorem circ_all : (List.range 11).all (fun k => (List.range k).all (circOk k)) = true := by decide +kernel
theorem circ_ok {k d : Nat} (hk : k < 11) (hd : d < k) : (0 < (circGo (k + 2) (circs k) d).length ∧ (circGo (k + 2) (circs k) d).length ≤ 20) ∧ (0 < ((circs k).getD d []).length ∧ ((circs k).getD d []).length ≤ 20) ∧
    ((k + 2) % (d + 2) = 0 → ∃ r, pover (circGo (k + 2) (circs k) d) ((circs k).getD d []) = some r) := by
  have h := List.all_eq_true.1 (List.all_eq_true.1 circ_all k (List.mem_range.2 hk)) d (List.mem_range.2 hd)
  unfold circOk at h
  simp only [Bool.and_eq_true, bne_iff_ne, decide_eq_true_eq, Bool.or_eq_true] at h
  obtain ⟨⟨⟨⟨h1, h2⟩, h3⟩, h4⟩, h5⟩ := h
  refine ⟨⟨by omega, h2⟩, ⟨by omega, h4⟩, fun h0 => ?_⟩
  rcases h5 with h5 | h5
  · exact absurd h0 h5
  · exact Option.isSome_iff_exists.1 h5

theorem rowRows : RowType Try.prog 115 63 1 := rowType_of (z := .slice none 0 0) Try.underlying115 (bytes := 24) (by kernel_rfl) rfl (by decide) (by decide)

theorem GQ.open {w : World} {v : Value} {xs : List Value} (h : GQ w v xs) : ∃ a c, v = .slice a xs.length c ∧ ∀ i u, xs[i]? = some u → ∃ g off, a = some ⟨g, off, none⟩ ∧ w.cell? ⟨g, off + i, none⟩ = some u := by
  rcases h with ⟨rfl, rfl⟩ | ⟨g, h⟩
  · exact ⟨none, 0, rfl, fun i u hi => by simp at hi⟩
  · obtain ⟨off, cap, h1, h2, _⟩ := QRow.open h
    exact ⟨_, cap, h1, fun i u hi => ⟨g, off, rfl, h2 i u hi⟩⟩

/-- A list of polynomials. -/
structure LL (w wr : World) (v : Value) (vs : List Value) (ls : List (List Int)) : Prop where
  q : GQ wr v vs
  len : vs.length = ls.length
  each : ∀ i, i < ls.length → ∃ x, vs[i]? = some x ∧ PR .i64 wr x (ls.getD i []) ∧ ∀ b, x.ownBlock = some b → v.ownBlock ≠ some b
  below : Below w.heap.size w wr
  ge : ∀ b, v.ownBlock = some b → w.heap.size ≤ b

theorem LL.later {w wr wr' : World} {v : Value} {vs : List Value} {ls : List (List Int)} (h : LL w wr v vs ls) (hb : Below wr.heap.size wr wr') : LL w wr' v vs ls :=
  ⟨h.q.later hb, h.len, fun i hi => by obtain ⟨x, h1, h2, h3⟩ := h.each i hi; exact ⟨x, h1, h2.later hb, h3⟩, h.below.trans (hb.mono h.below.size), h.ge⟩

theorem GQ.lt {w : World} {v : Value} {xs : List Value} (h : GQ w v xs) : ∀ b, v.ownBlock = some b → b < w.heap.size := by
  intro b hb
  rcases h with ⟨rfl, _⟩ | ⟨g, off, cap, rfl, _, _, _, _, _, hl⟩
  · simp [Value.ownBlock] at hb
  · simp [Value.ownBlock] at hb
    omega

/-- One polynomial more. -/
theorem LL.snoc {w wr wr' : World} {v v' : Value} {vs : List Value} {ls : List (List Int)} (h : LL w wr v vs ls) {x : Value} {l : List Int} (hx : PR .i64 wr x l) (hxb : ∀ b, x.ownBlock = some b → v.ownBlock ≠ some b)
    (hq : GQ wr' v' (vs ++ [x])) (ho : Only (fun k => v.ownBlock = some k ∨ wr.heap.size ≤ k) wr wr') (hv : ∀ b, v'.ownBlock = some b → v.ownBlock = some b ∨ wr.heap.size ≤ b) : LL w wr' v' (vs ++ [x]) (ls ++ [l]) := by
  have hlt : ∀ {y : Value} {m : List Int}, PR .i64 wr y m → ∀ b, y.ownBlock = some b → b < wr.heap.size := by
    rintro y m ⟨g, off, cap, rfl, _, hg, _⟩ b hb
    simp [Value.ownBlock] at hb
    omega
  have key : ∀ {y : Value} {m : List Int}, PR .i64 wr y m → (∀ b, y.ownBlock = some b → v.ownBlock ≠ some b) → PR .i64 wr' y m ∧ ∀ b, y.ownBlock = some b → v'.ownBlock ≠ some b := by
    intro y m hy hyb
    refine ⟨hy.only ho (fun b hb => ?_), fun b hb hb' => ?_⟩
    · rintro (h1 | h1)
      · exact hyb b hb h1
      · have := hlt hy b hb; omega
    · rcases hv b hb' with h1 | h1
      · exact hyb b hb h1
      · have := hlt hy b hb; omega
  refine ⟨hq, by simp [h.len], fun i hi => ?_, h.below.trans (ho.below (fun k hk => ?_)), fun b hb => ?_⟩
  · by_cases hil : i < ls.length
    · obtain ⟨y, h1, h2, h3⟩ := h.each i hil
      obtain ⟨k1, k2⟩ := key h2 h3
      refine ⟨y, ?_, ?_, k2⟩
      · rw [List.getElem?_append_left (by rw [h.len]; exact hil)]; exact h1
      · simpa [List.getD, List.getElem?_append, hil] using k1
    · obtain rfl : i = ls.length := by simp at hi; omega
      obtain ⟨k1, k2⟩ := key hx hxb
      refine ⟨x, ?_, ?_, k2⟩
      · rw [List.getElem?_append_right (by rw [h.len]; exact Nat.le_refl _), h.len]; simp
      · simpa [List.getD, List.getElem?_append] using k1
  · have := h.below.size
    rcases hk with hk | hk
    · exact h.ge k hk
    · omega
  · have := h.below.size
    rcases hv b hb with h1 | h1
    · exact h.ge b h1
    · omega

set_option maxRecDepth 100000 in
set_option maxHeartbeats 4000000 in
theorem t04_circles (w : World) : Calls Try.prog 64 #[] w fun e w' => ∃ v vs, e = .returned v ∧ LL w w' v vs (circs 11) := by
  have HONE := Lib.hid (fun (k : Nat) (hk : k ≤ 1000) W => t04_ones k hk W)
  go_enter Try.func64, Try.ntmps64
  go_wp2_with fail
  go_loopw [1, 2] (fun v kv wr => ∃ (k : Nat) (vs : List Value), kv = .int .i64 ((k + 2 : Nat) : Int) ∧ k ≤ 11 ∧ Hid (LL w wr v vs (circs k))) (fun _ kv _ => 13 - (intOf kv).toNat)
  case atStart => exact ⟨0, [], rfl, by omega, Lib.hid ⟨.inl ⟨rfl, rfl⟩, rfl, fun i hi => absurd hi (Nat.not_lt_zero _), Below.refl _ _, fun b hb => by simp [Value.ownBlock] at hb⟩⟩
  case round =>
    obtain ⟨k, vs, rfl, hk, HL⟩ := hrel
    by_cases hlt : k < 11
    · obtain ⟨m, hm⟩ : ∃ m, m = k + 2 := ⟨_, rfl⟩
      rw [← hm]
      have HM := Lib.hid hm
      have hm12 : (m : Int) ≤ 12 := by omega
      have HO1 := Lib.hid (HONE.out m (by omega) wr)
      unfold NewI at HO1
      clear hm
      go_wp2_with fail
      refine HO1.out.mono ?_
      rintro e w1 ⟨g1, v1, rfl, hq1, hg1, hB1⟩
      have HP0 := Lib.hid hq1.pr
      have HL1 := Lib.hid (HL.out.later hB1)
      obtain ⟨N, hN⟩ : ∃ N, N = wr.heap.size := ⟨_, rfl⟩
      have HNE := Lib.hid (show ∀ b, v1.ownBlock = some b → N ≤ b from by
        obtain ⟨off, cap, rfl, _⟩ := hq1.open
        intro b hb
        simp [Value.ownBlock] at hb
        omega)
      have hlt2 := HL.out.q.lt
      rw [← hN] at hlt2
      have HLT := Lib.hid hlt2
      have HN1 := Lib.hid (show N ≤ w1.heap.size from by have := hB1.size; omega)
      clear hq1 hg1 hB1 HO1 HL hlt2 hN
      obtain ⟨a0, c0, hv0, hcells⟩ := HL1.out.q.open
      have hvl : vs.length = k := by rw [HL1.out.len, length_circs]
      rw [hvl] at hv0
      subst hv0
      have HC := Lib.hid hcells
      have HVL := Lib.hid hvl
      clear hcells hvl
      go_wp2_with fail
      obtain ⟨wo, hwo⟩ : ∃ wo : World, wo = w1 := ⟨_, rfl⟩
      have HWO := Lib.hid hwo; clear hwo
      go_loopw [3, 14] (fun pv dv wq => ∃ d : Nat, dv = .int .i64 d ∧ d ≤ k ∧ Hid (PR .i64 wq pv (circGo m (circs k) d)) ∧ Hid (∀ b, pv.ownBlock = some b → N ≤ b) ∧ Hid (Below w1.heap.size w1 wq)) (fun _ dv _ => k - (intOf dv).toNat)
      case atStart => exact ⟨0, rfl, Nat.zero_le _, HP0, HNE, Lib.hid (Below.refl _ _)⟩
      case round =>
        clear HP0 HNE
        obtain ⟨d, rfl, hd, HP, HB, HW⟩ := hrel
        have HP' := HP
        have hpl := HP.out
        obtain ⟨gp, op, cp, rfl, _, _, _⟩ := hpl
        by_cases hdk : d < k
        · obtain ⟨x, hx1, hx2, hx3⟩ := HL1.out.each d (by rw [length_circs]; exact hdk)
          obtain ⟨g, off, rfl, hcell⟩ := HC.out d x hx1
          have hgl := HL1.out.q.lt g rfl
          have c1 := (HW.out.cell (p := ⟨g, off + d, none⟩) hgl).trans hcell
          have HX := Lib.hid (hx2.later HW.out)
          have hdki : (d : Int) < (k : Int) := by omega
          obtain ⟨o1, o2, o3⟩ := circ_ok (k := k) hlt hdk
          rw [← HM.out] at o1 o3
          have HO1 := Lib.hid o1; have HO2 := Lib.hid o2
          have hmod : ((m : Int) % ((d : Int) + 2)) = ((m % (d + 2) : Nat) : Int) := by
            rw [Int.natCast_emod]; rfl
          have hd2 : (0 : Int) < (d : Int) + 2 := by omega
          have hmod2 : IntKind.i64.wrap ((m : Int).tmod ((d : Int) + 2)) = ((m % (d + 2) : Nat) : Int) := by
            rw [Int.tmod_eq_emod_of_nonneg (by omega), hmod]
            have : m % (d + 2) < d + 2 := Nat.mod_lt _ (by omega)
            exact IntWalk.i64_in _ (by omega)
          have hsucc := circGo_succ (k := m) (d := d) (out := circs k) (by rw [length_circs]; exact hdk)
          have hget : (circs k)[d]'(by rw [length_circs]; exact hdk) = (circs k).getD d [] := by simp [List.getD, List.getElem?_eq_getElem (show d < (circs k).length by rw [length_circs]; exact hdk)]
          rw [hget] at hsucc
          by_cases h0 : m % (d + 2) = 0
          · obtain ⟨r, hr⟩ := o3 h0
            rw [if_pos h0, hr, Option.getD_some] at hsucc
            have HSU := Lib.hid hsucc
            have HR := Lib.hid hr
            rw [h0] at hmod hmod2
            have HOV := Lib.hid (t04_over HP.out HX.out (by have := HO1.out; omega) (by have := HO2.out; omega) (by have := HO2.out; omega))
            unfold OverPost at HOV
            clear o1 o2 o3 hsucc hr hget hx1 hx2 hx3 h0
            go_wp2_with fail
            refine HOV.out.mono ?_
            rintro e w2 ⟨hB2, ⟨hn, rfl⟩ | ⟨q, g2, v2, hq, rfl, hq2, hg2⟩⟩
            · rw [HR.out] at hn; cases hn
            · obtain rfl : r = q := by rw [HR.out] at hq; exact Option.some.inj hq
              have HP2 := Lib.hid (show PR .i64 w2 v2 (circGo m (circs k) (d + 1)) from by rw [HSU.out]; exact hq2.pr)
              have HB2 := Lib.hid (show ∀ b, v2.ownBlock = some b → N ≤ b from by
                obtain ⟨o9, c9, rfl, _⟩ := hq2.open
                intro b hb
                simp [Value.ownBlock] at hb
                have := HN1.out; have := HW.out.size
                omega)
              have HW2 := Lib.hid (HW.out.trans (hB2.mono HW.out.size))
              clear hB2 hq hq2 hg2 HOV c1
              go_wp2_with fail
              go_roundw
              case rel => exact ⟨d + 1, by go_num, by omega, HP2, HB2, HW2⟩
              case measure => simp [intOf]; omega
          · rw [if_neg h0] at hsucc
            have HP2 : Hid (PR .i64 wr (.slice (some ⟨gp, op, none⟩) (circGo m (circs k) d).length cp) (circGo m (circs k) (d + 1))) := by rw [hsucc]; exact HP
            have g1 : (((m % (d + 2) : Nat) : Int) == 0) = false := by rw [beq_eq_false_iff_ne]; omega
            obtain ⟨z, hz⟩ : ∃ z, z = m % (d + 2) := ⟨_, rfl⟩
            rw [← hz] at hmod hmod2 g1
            clear o1 o2 o3 hsucc hget hx1 hx2 hx3 h0 hz
            go_wp2_with fail
            go_roundw
            case rel => exact ⟨d + 1, by go_num, by omega, HP2, HB, HW⟩
            case measure => simp [intOf]; omega
        · obtain rfl : d = k := by omega
          have hL2 := HL1.out.later HW.out
          have HGQ := Lib.hid hL2.q
          have HL2 := Lib.hid hL2
          have hfin : circGo m (circs d) d = (circs (d + 1)).getD d [] := by
            rw [circs_last, ← circGo_all, length_circs, HM.out]
          have HFIN := Lib.hid hfin
          clear hdk hd hfin hL2
          go_wp2_with (at_builtin; refine wpList_gq1 wr rowRows rfl _ _ rfl (v := .slice a0 d c0) (xs := vs) rfl HGQ.out _ (.slice (some ⟨gp, op, none⟩) (circGo m (circs d) d).length cp) rfl rfl ?c3 ?_)
          case c3 => have := HVL.out; omega
          intro v' w' hq ho hv
          have HS := Lib.hid (HL2.out.snoc HP'.out (fun b hb h => by
            have h1 := HB.out b hb
            have h2 := HLT.out b h
            omega) hq ho hv)
          rw [HFIN.out] at HS
          have e : circs d ++ [(circs (d + 1)).getD d []] = circs (d + 1) := by
            rw [circs_last]; rfl
          rw [e] at HS
          clear hq ho hv e
          go_wp2_with fail
          go_roundw
          case rel => exact ⟨d + 1, _, by rw [HM.out]; go_num, by omega, HS⟩
          case measure => simp [intOf]; omega
    · obtain rfl : k = 11 := by omega
      go_wp2_with fail
      go_ret
      exact ⟨_, vs, rfl, HL.out⟩
end Go.Proofs.Ytdckpjagmbdkgaa
