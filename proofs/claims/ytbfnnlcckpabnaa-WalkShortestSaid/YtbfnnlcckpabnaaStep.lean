/- The step of package grow: the recursion over the graph. -/
import Derived.Test.YtbfnnlcckpabnaaGrow
namespace Go.Proofs.Ytbfnnlcckpabnaa
set_option linter.unusedSimpArgs false
set_option linter.unusedVariables false
open Go.RowKit

structure Small (o : Hy.Ord) : Prop where
  a : o.m01 ≤ 12
  b : o.m12 ≤ 12
  c : o.m02 ≤ 12

def StepPost (o : Hy.Ord) (B : Nat → Prop) (pb : Nat) (bs : Nat → Nat) (G G' : List Hy.Node) (y : Nat) (w : World) (e : Ending) (w' : World) : Prop :=
  ∃ bs' : Nat → Nat, e = .returned (.pointer (some ⟨bs' y, 0, none⟩)) ∧ GRep w' o B pb bs' G' ∧ (∀ i, i < G.length → bs' i = bs i) ∧ Only B w w' ∧ G.length ≤ G'.length ∧ y < G'.length

theorem grow_step_known {w : World} {o : Hy.Ord} {B : Nat → Prop} {pb : Nat} {bs : Nat → Nat} {G : List Hy.Node} (h : GRep w o B pb bs G) {x s y : Nat} (hs : s < 3) {n : Hy.Node} (hx : G[x]? = some n) (hy : n.to s = some y) :
    Calls Try.prog 84 #[.pointer (some ⟨pb, 0, none⟩), .pointer (some ⟨bs x, 0, none⟩), .int .i64 s] w (StepPost o B pb bs G G y w) := by
  have ct := h.cTo hx hs
  rw [hy] at ct
  unfold ptr at ct
  simp only at ct
  have hyl := h.closed x n s y hx hy
  have hP : StepPost o B pb bs G G y w (.returned (.pointer (some ⟨bs y, 0, none⟩))) w := ⟨bs, rfl, h, fun _ _ => rfl, Only.refl _ _, Nat.le_refl _, hyl⟩
  have HX := Lib.hid hx; clear hx
  have HY := Lib.hid hy; clear hy
  go_enter Try.func84, Try.ntmps84
  go_wp2_with fail
  go_ret
  exact hP

theorem GRep.lt {w : World} {o : Hy.Ord} {B : Nat → Prop} {pb : Nat} {bs : Nat → Nat} {G : List Hy.Node} (h : GRep w o B pb bs G) {i : Nat} (hi : i < G.length) : bs i < w.heap.size :=
  (Array.getElem?_eq_some_iff.1 (h.node i G[i] (List.getElem?_eq_getElem hi))).1

theorem heap_alloc_lt (w : World) (ob : Obj) {k : Nat} (h : k < w.heap.size) : (w.alloc ob).heap[k]? = w.heap[k]? := Below.heap_alloc w ob k h

theorem ptr_congr {bs bs' : Nat → Nat} {N : Nat} (h : ∀ i, i < N → bs' i = bs i) (x : Option Nat) (hx : ∀ j, x = some j → j < N) : ptr bs' x = ptr bs x := by
  cases x with
  | none => rfl
  | some j => simp only [ptr]; rw [h j (hx j rfl)]

theorem alloc_heap_new (w : World) (ob : Obj) : (w.alloc ob).heap[w.heap.size]? = some ob := by
  show (w.heap.push ob)[w.heap.size]? = some ob
  simp

theorem sprout_rep {w : World} {o : Hy.Ord} {B : Nat → Prop} {pb : Nat} {bs : Nat → Nat} {G : List Hy.Node} (h : GRep w o B pb bs G) (hB : Free B w) (h0 : 0 < G.length) (ob : Obj) (l : List UInt8) :
    ∃ bs2 : Nat → Nat, GRep (((w.alloc ob).alloc (.cells #[.string ⟨l.toArray⟩, .pointer none, .pointer none, .pointer none, .bool false, .bool false, .bool false] 148)).drew) o B pb bs2 (G ++ [Hy.fresh l]) ∧
      (∀ i, i < G.length → bs2 i = bs i) ∧ bs2 G.length = w.heap.size + 1 := by
  refine ⟨fun i => if i = G.length then w.heap.size + 1 else bs i, GRep.drew ⟨?_, ?_, ?_, ?_, ?_, ?_⟩, fun i hi => if_neg (by omega), if_pos rfl⟩
  · have hp : pb < w.heap.size := (Array.getElem?_eq_some_iff.1 h.plane).1
    rw [heap_alloc_lt _ _ (by simp; omega), heap_alloc_lt _ _ hp, if_neg (by omega)]
    exact h.plane
  · intro i n hi
    by_cases e : i = G.length
    · subst e
      simp at hi
      subst hi
      simp only [if_true]
      have := alloc_heap_new (w.alloc ob) (.cells #[.string ⟨l.toArray⟩, .pointer none, .pointer none, .pointer none, .bool false, .bool false, .bool false] 148)
      rw [World.size_alloc] at this
      exact this
    · have hlt : i < G.length := by
        have := (List.getElem?_eq_some_iff.1 hi).1
        simp at this
        omega
      rw [List.getElem?_append_left hlt] at hi
      have hb := h.lt hlt
      simp only [if_neg e]
      rw [heap_alloc_lt _ _ (by simp; omega), heap_alloc_lt _ _ hb, h.node i n hi]
      have hcl := h.closed i n
      unfold nodeCells
      have hag : ∀ j, j < G.length → (fun i => if i = G.length then w.heap.size + 1 else bs i) j = bs j := fun j hj => if_neg (by omega)
      rw [ptr_congr hag (n.to 0) (fun j e => hcl 0 j hi e), ptr_congr hag (n.to 1) (fun j e => hcl 1 j hi e), ptr_congr hag (n.to 2) (fun j e => hcl 2 j hi e)]
  · intro i j hi hj e
    simp at hi hj
    have li : i ≠ G.length → bs i < w.heap.size := fun _ => h.lt (by omega)
    have lj : j ≠ G.length → bs j < w.heap.size := fun _ => h.lt (by omega)
    by_cases e1 : i = G.length
    · by_cases e2 : j = G.length
      · omega
      · have := lj e2; simp [e1, e2] at e; omega
    · by_cases e2 : j = G.length
      · have := li e1; simp [e1, e2] at e; omega
      · simp [e1, e2] at e; exact h.inj i j (by omega) (by omega) e
  · intro i hi
    simp at hi
    have hp : pb < w.heap.size := (Array.getElem?_eq_some_iff.1 h.plane).1
    by_cases e1 : i = G.length
    · simp [e1]; omega
    · simp [e1]; exact h.ne i (by omega)
  · intro i hi
    simp at hi
    by_cases e1 : i = G.length
    · simp [e1]; exact hB _ (by omega)
    · simp [e1]; exact h.lo i (by omega)
  · intro i n s j hi hj
    simp
    by_cases e : i = G.length
    · subst e
      simp at hi
      subst hi
      simp [Hy.fresh] at hj
    · have hlt : i < G.length := by
        have := (List.getElem?_eq_some_iff.1 hi).1
        simp at this
        omega
      rw [List.getElem?_append_left hlt] at hi
      have := h.closed i n s j hi hj
      omega

theorem GRep.cOrd {w : World} {o : Hy.Ord} {B : Nat → Prop} {pb : Nat} {bs : Nat → Nat} {G : List Hy.Node} (h : GRep w o B pb bs G) {s t : Nat} (hs : s < 3) (ht : t < 3) :
    w.cell? ⟨pb, s * 3 + t, none⟩ = some (.int .i64 (if s = t then 0 else o.m s t : Nat)) := by
  rw [cell_of_heap h.plane]
  obtain rfl | rfl | rfl : s = 0 ∨ s = 1 ∨ s = 2 := by omega
  all_goals
    obtain rfl | rfl | rfl : t = 0 ∨ t = 1 ∨ t = 2 := by omega
    all_goals rfl

theorem bytes_add (a b : List UInt8) : ((⟨a.toArray⟩ : ByteArray) ++ ⟨b.toArray⟩) = ⟨(a ++ b).toArray⟩ := ByteArray.mk_append_mk a b

theorem GRep.alloc {w : World} {o : Hy.Ord} {B : Nat → Prop} {pb : Nat} {bs : Nat → Nat} {G : List Hy.Node} (h : GRep w o B pb bs G) (ob : Obj) : GRep (w.alloc ob) o B pb bs G := by
  refine ⟨?_, ?_, h.inj, h.ne, h.lo, h.closed⟩
  · rw [heap_alloc_lt _ _ (Array.getElem?_eq_some_iff.1 h.plane).1]; exact h.plane
  · intro i n hi
    rw [heap_alloc_lt _ _ (h.lt (List.getElem?_eq_some_iff.1 hi).1)]; exact h.node i n hi

theorem ByteArray_toList (l : List UInt8) : (⟨l.toArray⟩ : ByteArray).toList = l := by
  simp

theorem less_eq : ∀ (a b : List UInt8), Op.bytesLess a b = Hy.less a b
  | _, [] => by cases ‹List UInt8› <;> rfl
  | [], _ :: _ => rfl
  | a :: x, b :: y => by simp only [Op.bytesLess, Hy.less, less_eq x y]

/-- What the recursion may use. -/
def StepIH (o : Hy.Ord) (B : Nat → Prop) (pb : Nat) (f : List Hy.Node → Nat → Nat → Option (List Hy.Node × Nat)) : Prop :=
  ∀ (w : World) (bs : Nat → Nat) (G : List Hy.Node) (x s : Nat) (G' : List Hy.Node) (y : Nat), GRep w o B pb bs G → Free B w → s < 3 → f G x s = some (G', y) →
    Calls Try.prog 84 #[.pointer (some ⟨pb, 0, none⟩), .pointer (some ⟨bs x, 0, none⟩), .int .i64 s] w (StepPost o B pb bs G G' y w)

set_option maxRecDepth 100000 in
set_option maxHeartbeats 2000000 in
theorem grow_step_new {w : World} {o : Hy.Ord} (ho : Small o) {B : Nat → Prop} {pb : Nat} {bs : Nat → Nat} {G : List Hy.Node} (h : GRep w o B pb bs G) (hB : Free B w) {x s : Nat} (hs : s < 3) {n : Hy.Node} (hx : G[x]? = some n) (hy : n.to s = none) (hl : n.word.length < 1000)
    {f : List Hy.Node → Nat → Nat → Option (List Hy.Node × Nat)} (ih : StepIH o B pb f) {Gc : List Hy.Node} (hc : Hy.corners o f x s G.length 3 (Hy.sprout G n x s) = some Gc) :
    Calls Try.prog 84 #[.pointer (some ⟨pb, 0, none⟩), .pointer (some ⟨bs x, 0, none⟩), .int .i64 s] w (StepPost o B pb bs G Gc G.length w) := by
  have ct := h.cTo hx hs
  rw [hy] at ct
  unfold ptr at ct
  simp only at ct
  have cw := h.cWord hx
  have hxl : x < G.length := (List.getElem?_eq_some_iff.1 hx).1
  have HX := Lib.hid hx; clear hx
  have HY := Lib.hid hy; clear hy
  have HC := Lib.hid hc; clear hc
  have IH := Lib.hid ih; clear ih
  unfold str at cw
  have hlt : bs x < w.heap.size := World.block_lt_of_cell? _ _ cw
  have cwa : ∀ ob, (w.alloc ob).cell? ⟨bs x, 0, none⟩ = some (.string ⟨n.word.toArray⟩) := fun ob => (World.cell?_alloc_lt w ob _ hlt).trans cw
  have kl := run_letter (w.alloc (.cells #[.int .u8 s] 5)).drew w.heap.size s (by simp)
  unfold str at kl
  go_enter Try.func84, Try.ntmps84
  go_wp2_with fail
  go_region
  all_goals go_wp2_with fail
  clear kl cwa ct cw
  rw [show (#[UInt8.ofNat s] : Array UInt8) = (Hy.letter s).toArray from rfl, bytes_add]
  obtain ⟨bs2, h2, e2, e3⟩ := sprout_rep h hB (by omega) (.cells #[.int .u8 s] 5) (n.word ++ Hy.letter s)
  rw [← e3, ← e2 x hxl]
  refine (grow_link h2 x G.length s hs n (Hy.fresh (n.word ++ Hy.letter s)) (by rw [List.getElem?_append_left hxl]; exact HX.out) (by simp) (by omega)).mono ?_
  rintro e w1 ⟨rfl, h3, hB3⟩
  have hB4 : Only B w w1 := (((Only.refl B w).alloc hB _).alloc hB _).drew.trans hB3
  have E2 := Lib.hid e2; clear e2
  have E3 := Lib.hid e3; clear e3
  have HB4 := Lib.hid hB4; clear hB4 hB3
  have h3 : GRep w1 o B pb bs2 (Hy.sprout G n x s) := h3
  have HH3 := Lib.hid h3; clear h3
  have HH := Lib.hid h; clear h h2
  go_wp2_with fail
  go_loopw [43] (fun i wr => ∃ (r : Nat) (bs' : Nat → Nat) (Gr : List Hy.Node), r ≤ 3 ∧ i = .int .i64 ((3 - r : Nat) : Int) ∧ Hid (GRep wr o B pb bs' Gr) ∧ Hid (Hy.corners o f x s G.length r Gr = some Gc) ∧ Hid (∀ i, i < G.length + 1 → bs' i = bs2 i) ∧ Hid (Only B w wr) ∧ G.length + 1 ≤ Gr.length) (fun i _ => 3 - (intOf i).toNat)
  case atStart => exact ⟨3, bs2, Hy.sprout G n x s, by omega, rfl, HH3.out, HC.out, fun _ _ => rfl, HB4.out, by simp [Hy.sprout, Hy.length_link]⟩
  case round =>
    obtain ⟨r, bs', Gr, hr3, rfl, HR, HCr, HA, HBr, hlen⟩ := hrel
    cases r with
    | zero =>
      go_wp2_with fail
      go_ret
      have hc0 := HCr.out
      unfold Hy.corners at hc0
      cases hc0
      refine ⟨bs', ?_, HR.out, fun i hi => ?_, HBr.out, by omega, by omega⟩
      · rw [HA.out G.length (by omega)]; rfl
      · rw [HA.out i (by omega), E2.out i hi]
    | succ r =>
      obtain ⟨G1, hc1, hc2⟩ := Hy.corners_succ HCr.out
      have HC2 := Lib.hid hc2; clear hc2
      obtain ⟨t, ht, ht3⟩ : ∃ t, t = 3 - (r + 1) ∧ t < 3 := ⟨_, rfl, by omega⟩
      rw [← ht] at hc1 ⊢
      have htr : 3 - r = t + 1 := by omega
      have HT := Lib.hid htr; clear htr
      have HT' := Lib.hid ht; clear ht
      have co := HR.out.cOrd hs ht3
      have ex : bs2 x = bs' x := (HA.out x (by omega)).symm
      have ey : bs2 G.length = bs' G.length := (HA.out _ (by omega)).symm
      have EX := Lib.hid ex; clear ex
      have EY := Lib.hid ey; clear ey
      rcases Hy.corner_cases hc1 with ⟨h1, h2⟩ | ⟨h1, h2, h4⟩ | ⟨m, h1, h2, h4, h5⟩ | ⟨m, v, G', z, nz, ny, h1, h2, h4, h5, h6, h7, h8, h9, h10⟩
      · subst h2
        have g1 : ((t : Int) == (s : Int)) = true := by rw [beq_iff_eq]; omega
        clear h1 hc1
        go_wp2_with fail
        go_roundw
        case rel => exact ⟨r, bs', G1, by omega, by rw [HT.out]; rfl, HR, HC2, HA, HBr, hlen⟩
        case measure => simp [intOf]; omega
      · subst h4
        have g1 : ((t : Int) == (s : Int)) = false := by rw [beq_eq_false_iff_ne]; omega
        replace co : wr.cell? ⟨pb, s * 3 + t, none⟩ = some (.int .i64 0) := by rw [if_neg (Ne.symm h1), h2] at co; exact co
        clear h1 hc1 h2
        go_wp2_with fail
        go_roundw
        case rel => exact ⟨r, bs', G1, by omega, by rw [HT.out]; rfl, HR, HC2, HA, HBr, hlen⟩
        case measure => simp [intOf]; omega
      · subst h5
        have hm : m + 1 ≤ 12 := by have := ho.a; have := ho.b; have := ho.c; rw [← h2]; unfold Hy.Ord.m; split; assumption; split <;> assumption
        have g1 : ((t : Int) == (s : Int)) = false := by rw [beq_eq_false_iff_ne]; omega
        replace co : wr.cell? ⟨pb, s * 3 + t, none⟩ = some (.int .i64 ((m : Int) + 1)) := by rw [if_neg (Ne.symm h1), h2] at co; exact co
        have g2 : ((m : Int) + 1 == 0) = false := by rw [beq_eq_false_iff_ne]; omega
        have H4 := Lib.hid h4; clear h4
        clear h1 hc1 h2
        have hcall := grow_lowest HR.out m x t s (by omega) ht3 hs none H4.out
        rw [← EX.out] at hcall
        have HCALL := Lib.hid hcall; clear hcall
        go_wp2_with fail
        refine HCALL.out.mono ?_
        rintro e w2 ⟨rfl, rfl⟩
        clear HCALL
        go_wp2_with fail
        go_roundw
        case rel => exact ⟨r, bs', G1, by omega, by rw [HT.out]; rfl, HR, HC2, HA, HBr, hlen⟩
        case measure => simp [intOf]; omega
      · have hm : m + 1 ≤ 12 := by have := ho.a; have := ho.b; have := ho.c; rw [← h2]; unfold Hy.Ord.m; split; assumption; split <;> assumption
        have g1 : ((t : Int) == (s : Int)) = false := by rw [beq_eq_false_iff_ne]; omega
        replace co : wr.cell? ⟨pb, s * 3 + t, none⟩ = some (.int .i64 ((m : Int) + 1)) := by rw [if_neg (Ne.symm h1), h2] at co; exact co
        have g2 : ((m : Int) + 1 == 0) = false := by rw [beq_eq_false_iff_ne]; omega
        have hcall := grow_lowest HR.out m x t s (by omega) ht3 hs (some v) h4
        rw [← EX.out] at hcall
        have HCALL := Lib.hid hcall; clear hcall
        have H6 := Lib.hid h6; clear h6
        have H7 := Lib.hid h7; clear h7
        have H8 := Lib.hid h8; clear h8
        have H10 := Lib.hid h10; clear h10
        clear h1 hc1 h2 h4
        have hpar : ((((m : Int) + 1) % 2 == 0) = true ∧ Hy.climb f m Gr v s t = some (G', z)) ∨ ((((m : Int) + 1) % 2 == 0) = false ∧ Hy.climb f m Gr v t s = some (G', z)) := by
          rcases (show (m + 1) % 2 = 0 ∨ (m + 1) % 2 = 1 by omega) with par | par
          · rw [if_pos par, if_pos par] at h5
            exact .inl ⟨by rw [beq_iff_eq]; omega, h5⟩
          · rw [if_neg (by omega), if_neg (by omega)] at h5
            exact .inr ⟨by rw [beq_eq_false_iff_ne]; omega, h5⟩
        clear h5
        rcases hpar with ⟨g3, h5⟩ | ⟨g3, h5⟩
        all_goals
          have H5 := Lib.hid h5; clear h5
          go_wp2_with fail
          refine HCALL.out.mono ?_
          rintro e w2 ⟨rfl, rfl⟩
          clear HCALL
          go_wp2_with fail
          obtain ⟨wo, hwo⟩ : ∃ wo : World, wo = wr := ⟨_, rfl⟩
          have HWO := Lib.hid hwo; clear hwo
          have HL := Lib.hid (show m ≤ m from Nat.le_refl m)
          go_loopw [12, 13, 80] (fun zv lv cv wq => ∃ (k : Nat) (bq : Nat → Nat) (Gq : List Hy.Node) (zz ll ll' : Nat), k ≤ m ∧ ll < 3 ∧ ll' < 3 ∧ zv = .pointer (some ⟨bq zz, 0, none⟩) ∧ lv = .int .i64 ll ∧ cv = .int .i64 ((m - k : Nat) : Int) ∧ ll + ll' = s + t ∧
            Hid (GRep wq o B pb bq Gq) ∧ Hid (Hy.climb f k Gq zz ll ll' = some (G', z)) ∧ Hid (∀ i, i < G.length + 1 → bq i = bs2 i) ∧ Hid (Only B w wq) ∧ G.length + 1 ≤ Gq.length) (fun _ _ cv _ => m - (intOf cv).toNat)
          case atStart => exact ⟨m, bs', Gr, v, _, _, Nat.le_refl _, by assumption, by assumption, rfl, rfl, by simp, by omega, HR, H5.out, HA, HBr, hlen⟩
          case round =>
            obtain ⟨k, bq, Gq, zz, ll, ll', hk, hll, hll', rfl, rfl, rfl, hsum, HRq, Hcl, HAq, HBq, hlenq⟩ := hrel
            cases k with
            | zero =>
              have hc0 := Hcl.out
              unfold Hy.climb at hc0
              cases hc0
              have hzl : z < G'.length := by
                have := (List.getElem?_eq_some_iff.1 H7.out).1
                rwa [Hy.length_link] at this
              have hyl : G.length < G'.length := by omega
              have eyq : bs2 G.length = bq G.length := (HAq.out _ (by omega)).symm
              have hcall := grow_link HRq.out z G.length t ht3 G'[z] G'[G.length] (List.getElem?_eq_getElem hzl) (List.getElem?_eq_getElem hyl) H6.out
              rw [← eyq] at hcall
              have HCALL := Lib.hid hcall; clear hcall
              have EYQ := Lib.hid eyq; clear eyq
              go_wp2_with fail
              refine HCALL.out.mono ?_
              rintro e w3 ⟨rfl, h3, hB3⟩
              clear HCALL
              have hcw := h3.cWord H7.out
              have hcy := h3.cWord H8.out
              rw [← EYQ.out] at hcy
              have hfy := free_of_heap (h3.node _ _ H8.out) 0
              rw [← EYQ.out] at hfy
              have hzb : bq z < w3.heap.size := h3.lt (by rw [Hy.length_link]; exact hzl)
              have hyb : bs2 G.length < w3.heap.size := by rw [EYQ.out]; exact h3.lt (by rw [Hy.length_link]; exact hyl)
              have hcwa : ∀ ob, (w3.alloc ob).cell? ⟨bq z, 0, none⟩ = some (str nz.word) := fun ob => (World.cell?_alloc_lt w3 ob _ hzb).trans hcw
              have hcya : ∀ ob, (w3.alloc ob).cell? ⟨bs2 G.length, 0, none⟩ = some (str ny.word) := fun ob => (World.cell?_alloc_lt w3 ob _ hyb).trans hcy
              have hfya : ∀ ob, (w3.alloc ob).frozen? ⟨bs2 G.length, 0, none⟩ = false := fun ob => (World.frozen?_alloc_old w3 ob _ (Nat.ne_of_lt hyb)).trans hfy
              have kl := run_letter (w3.alloc (.cells #[.int .u8 t] 5)).drew w3.heap.size t (by simp)
              have h4 := (h3.alloc (.cells #[.int .u8 t] 5)).drew
              have hB4 : Only B w (w3.alloc (.cells #[.int .u8 t] 5)).drew := ((HBq.out.trans hB3).alloc hB _).drew
              have hword : (⟨nz.word.toArray⟩ ++ ⟨#[UInt8.ofNat t]⟩ : ByteArray) = ⟨(nz.word ++ Hy.letter t).toArray⟩ := bytes_add _ _
              have h5 := ((h3.setWord H8.out (nz.word ++ Hy.letter t)).alloc (.cells #[.int .u8 t] 5)).drew
              have hB5 := (((HBq.out.trans hB3).setCell (p := ⟨bs2 G.length, 0, none⟩) (by rw [EYQ.out]; exact h3.lo _ (by rw [Hy.length_link]; exact hyl)) (str (nz.word ++ Hy.letter t))).alloc hB (.cells #[.int .u8 t] 5)).drew
              rw [← EYQ.out] at h5
              unfold str at h5 hB5
              rw [← hword] at h5 hB5
              have HW := Lib.hid hword; clear hword
              have H3 := Lib.hid h3; clear h3
              have HH4 := Lib.hid h4; clear h4
              have HH5 := Lib.hid h5; clear h5
              have HB3 := Lib.hid hB3; clear hB3
              have HB4' := Lib.hid hB4; clear hB4
              have HB5 := Lib.hid hB5; clear hB5
              unfold str at hcw hcy hcwa hcya kl
              go_wp2_with fail
              go_region
              all_goals go_wp2_with fail
              · have hlt : Op.bytesLess (⟨nz.word.toArray⟩ ++ ⟨#[UInt8.ofNat t]⟩ : ByteArray).toList ny.word = true := by assumption
                have h10 := H10.out
                rw [HW.out, ByteArray_toList, less_eq] at hlt
                rw [if_pos hlt] at h10
                go_roundw
                case rel => exact ⟨r, bq, G1, by omega, by rw [HT.out]; rfl, by rw [h10]; exact HH5.out, HC2, HAq, HB5.out, by rw [h10]; simp [Hy.length_link]; omega⟩
                case measure => simp [intOf]; omega
              · have hlt : Op.bytesLess (⟨nz.word.toArray⟩ ++ ⟨#[UInt8.ofNat t]⟩ : ByteArray).toList ny.word = false := by assumption
                have h10 := H10.out
                rw [HW.out, ByteArray_toList, less_eq] at hlt
                rw [if_neg (by rw [hlt]; simp)] at h10
                go_roundw
                case rel => exact ⟨r, bq, G1, by omega, by rw [HT.out]; rfl, by rw [h10]; exact HH4.out, HC2, HAq, HB4'.out, by rw [h10]; simp [Hy.length_link]; omega⟩
                case measure => simp [intOf]; omega
            | succ k =>
              obtain ⟨Gn, zn, hf, hcn⟩ := Hy.climb_succ Hcl.out
              have hcall := IH.out wr bq Gq zz ll Gn zn HRq.out (hB.grow HBq.out.size) hll hf
              have HCALL := Lib.hid hcall; clear hcall hf
              have HCN := Lib.hid hcn; clear hcn
              go_wp2_with fail
              refine HCALL.out.mono ?_
              rintro e w3 ⟨bn, rfl, h3, hag, hB3, hlen3, hzn⟩
              clear HCALL
              have H3 := Lib.hid h3; clear h3
              have HAG := Lib.hid hag; clear hag
              have HB3 := Lib.hid hB3; clear hB3
              go_wp2_with fail
              go_roundw
              case rel => exact ⟨k, bn, Gn, zn, ll', ll, by omega, hll', hll, rfl, by go_num, by go_num, by omega, H3, HCN, fun i hi => (HAG.out i (by omega)).trans (HAq.out i hi), HBq.out.trans HB3.out, by omega⟩
              case measure => simp [intOf]; omega

/-- The step of the graph in memory. -/
theorem grow_step {o : Hy.Ord} (ho : Small o) {B : Nat → Prop} {pb : Nat} : ∀ fuel : Nat, StepIH o B pb (Hy.step o fuel)
  | 0 => fun w bs G x s G' y h hB hs hf => by cases hf
  | fuel + 1 => fun w bs G x s G' y h hB hs hf => by
    unfold Hy.step at hf
    cases hx : G[x]? with
    | none => rw [hx] at hf; cases hf
    | some n =>
      rw [hx] at hf
      simp only at hf
      cases hy : n.to s with
      | some y' =>
        rw [hy] at hf
        cases hf
        exact grow_step_known h hs hx hy
      | none =>
        rw [hy] at hf
        simp only at hf
        by_cases hl : 1000 ≤ n.word.length
        · rw [if_pos hl] at hf; cases hf
        · rw [if_neg hl] at hf
          cases hc : Hy.corners o (Hy.step o fuel) x s G.length 3 (Hy.sprout G n x s) with
          | none => rw [hc] at hf; cases hf
          | some Gc =>
            rw [hc] at hf
            cases hf
            exact grow_step_new ho h hB hs hx hy (by omega) (grow_step ho fuel) hc
end Go.Proofs.Ytbfnnlcckpabnaa
