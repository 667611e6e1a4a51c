import Derived.Test.YtdckpjagmbdkgaaT8
import Derived.Test.YtdckpjagmbdkgaaCount
import Derived.Test.YtdckpjagmbdkgaaIterS
import Derived.OwnWalkIn
import Derived.LoopIn
import Derived.Handy

/- The rings' iterator of package tiles: what holds while it runs. -/
namespace Go.Proofs.Ytdckpjagmbdkgaa
set_option linter.unusedSimpArgs false
set_option linter.unusedVariables false
open Go.RowKit
open Hy (Lev Mid)

def natV (x : Nat) : Value := .int .i64 x
def natVs (l : List Nat) : List Value := l.map natV
/-- The ring's tiles as the keys of a map. -/
def seenOf (l : List Nat) : List (Nat × Bool) := l.map (·, true)

theorem look_seen (y : Nat) : ∀ l : List Nat, mlook y (seenOf l) = if y ∈ l then some true else none
  | [] => rfl
  | x :: l => by
    show (if y = x then some true else mlook y (seenOf l)) = _
    rw [look_seen y l]
    by_cases h : y = x
    · simp [h]
    · simp [h]
theorem put_seen {y : Nat} : ∀ {l : List Nat}, y ∉ l → mput y true (seenOf l) = seenOf (l ++ [y])
  | [], _ => rfl
  | x :: l, h => by
    simp only [List.mem_cons, not_or] at h
    show (if y = x then (y, true) :: seenOf l else (x, true) :: mput y true (seenOf l)) = _
    rw [if_neg h.1, put_seen h.2]
    rfl

/-- What a round meets. -/
def RingS (o : Hy.Ord) (gb : Nat) (i : Nat) (C : Nat → Prop) (args : Array Value) (W : World) : Prop :=
  ∃ (rb : Nat) (v : Value) (G : List Hy.Node) (ring : List Nat) (rv : Value), args = #[.int .i64 i, rv] ∧ TG W o (fun k => ¬ C k) gb rb v G ∧ Lev o G i ring ∧ GQ W rv (natVs ring) ∧ (∀ b, rv.ownBlock = some b → ¬ C b) ∧ Hy.levF o i = some (G, ring)

/-- Ahead of a round. -/
structure RSt (J : Nat → (Nat → Prop) → World → Prop) (C Sh : Nat → Prop) (W : World) (o : Hy.Ord) (gb k : Nat) (rv : Value) (wr : World) (C' : Nat → Prop) (rb : Nat) (v : Value) (G : List Hy.Node) (ring : List Nat) : Prop where
  j : J k C' wr
  c : ∀ x, C' x → Mine C W.heap.size x ∧ x < wr.heap.size
  on : Only (fun x => Mine C W.heap.size x ∨ Sh x) W wr
  tg : TG wr o (fun x => (Sh x ∨ W.heap.size ≤ x) ∧ ¬ C' x ∧ rv.ownBlock ≠ some x) gb rb v G
  lev : Lev o G k ring
  q : GQ wr rv (natVs ring)
  rc : ∀ b, rv.ownBlock = some b → W.heap.size ≤ b ∧ ¬ C' b

theorem RSt.shown {J : Nat → (Nat → Prop) → World → Prop} {C Sh : Nat → Prop} {W : World} {o : Hy.Ord} {gb k : Nat} {rv : Value} {wr : World} {C' : Nat → Prop} {rb : Nat} {v : Value} {G : List Hy.Node} {ring : List Nat} (h : RSt J C Sh W o gb k rv wr C' rb v G ring) (hd : Hy.levF o k = some (G, ring)) : RingS o gb k C' #[.int .i64 k, rv] wr :=
  ⟨rb, v, G, ring, rv, rfl, h.tg.sub h.tg.lo.1.2.1 h.tg.lo.2.2.1, h.lev, h.q, fun b hb => (h.rc b hb).2, hd⟩

/-- While the next ring is gathered. -/
structure RMd (J : Nat → (Nat → Prop) → World → Prop) (C Sh : Nat → Prop) (W : World) (o : Hy.Ord) (gb k : Nat) (rv : Value) (mb : Nat) (C' : Nat → Prop) (G0 : List Hy.Node) (ring : List Nat) (p s : Nat) (nv : Value) (wr : World) (rb : Nat) (v : Value) (G : List Hy.Node) (next : List Nat) : Prop where
  j : J (k + 1) C' wr
  c : ∀ x, C' x → Mine C W.heap.size x ∧ x < wr.heap.size
  on : Only (fun x => Mine C W.heap.size x ∨ Sh x) W wr
  tg : TG wr o (fun x => (Sh x ∨ W.heap.size ≤ x) ∧ ¬ C' x ∧ rv.ownBlock ≠ some x ∧ nv.ownBlock ≠ some x ∧ x ≠ mb) gb rb v G
  mid : Mid o G0 G k ring p s next
  q : GQ wr rv (natVs ring)
  rc : ∀ b, rv.ownBlock = some b → W.heap.size ≤ b ∧ ¬ C' b
  nq : GQ wr nv (natVs next)
  nc : ∀ b, nv.ownBlock = some b → W.heap.size ≤ b ∧ ¬ C' b ∧ rv.ownBlock ≠ some b ∧ b ≠ mb
  mp : MapAt wr natV Value.bool mb (seenOf next)
  mc : W.heap.size ≤ mb ∧ ¬ C' mb ∧ rv.ownBlock ≠ some mb

section
variable {J : Nat → (Nat → Prop) → World → Prop} {C Sh Own : Nat → Prop} {W : World} {o : Hy.Ord} {gb k : Nat} {rv : Value} {mb : Nat} {C' : Nat → Prop} {G0 : List Hy.Node} {ring : List Nat} {p s : Nat} {nv : Value} {wr : World} {rb : Nat} {v : Value} {G : List Hy.Node} {next : List Nat}

/-- After a step of the graph. -/
theorem RMd.grown (h : RMd J C Sh W o gb k rv mb C' G0 ring p s nv wr rb v G next) (hJ : Stable Own J) (hown : ∀ x, Own x → x < W.heap.size ∧ ¬ Sh x) {w1 : World} {rb1 : Nat} {v1 : Value} {G1 : List Hy.Node} {p1 s1 : Nat}
    (ho : Only (fun x => (Sh x ∨ W.heap.size ≤ x) ∧ ¬ C' x ∧ rv.ownBlock ≠ some x ∧ nv.ownBlock ≠ some x ∧ x ≠ mb) wr w1) (ht : TG w1 o (fun x => (Sh x ∨ W.heap.size ≤ x) ∧ ¬ C' x ∧ rv.ownBlock ≠ some x ∧ nv.ownBlock ≠ some x ∧ x ≠ mb) gb rb1 v1 G1)
    (hm : Mid o G0 G1 k ring p1 s1 next) : RMd J C Sh W o gb k rv mb C' G0 ring p1 s1 nv w1 rb1 v1 G1 next :=
  ⟨hJ _ _ _ _ h.j (fun x hx => ho.block x (fun hb => by
      rcases hx with hx | hx
      · exact hb.2.1 hx
      · obtain ⟨h1, h2⟩ := hown x hx
        rcases hb.1 with hb | hb
        · exact h2 hb
        · omega)) ho.size, fun x hx => ⟨(h.c x hx).1, Nat.lt_of_lt_of_le (h.c x hx).2 ho.size⟩,
    h.on.trans (ho.mono fun x hx => hx.1.elim .inr (fun hx => .inl (.inr hx))), ht, hm, h.q.only ho (fun b hb hx => hx.2.2.1 hb), h.rc, h.nq.only ho (fun b hb hx => hx.2.2.2.1 hb), h.nc,
    h.mp.of_heap (ho.block mb (fun hx => hx.2.2.2.2 rfl)), h.mc⟩

/-- After other changes: of the map, of the list, of new blocks. -/
theorem RMd.pushed (h : RMd J C Sh W o gb k rv mb C' G0 ring p s nv wr rb v G next) (hJ : Stable Own J) (hown : ∀ x, Own x → x < W.heap.size ∧ ¬ Sh x) {w1 : World} {nv1 : Value} {next1 : List Nat} {p1 s1 : Nat}
    (ho : Only (fun x => x = mb ∨ nv.ownBlock = some x ∨ wr.heap.size ≤ x) wr w1) (hq : GQ w1 nv1 (natVs next1)) (hn : ∀ b, nv1.ownBlock = some b → nv.ownBlock = some b ∨ wr.heap.size ≤ b) (hmp : MapAt w1 natV Value.bool mb (seenOf next1))
    (hm : Mid o G0 G k ring p1 s1 next1) : RMd J C Sh W o gb k rv mb C' G0 ring p1 s1 nv1 w1 rb v G next1 := by
  have hWr := h.on.size
  obtain ⟨_, _, _, _, _, _, g1, g2⟩ := h.tg.opened
  have hrl := h.q.lt
  have hml := h.mp.lt
  have kC : ∀ x, C' x → ¬ (x = mb ∨ nv.ownBlock = some x ∨ wr.heap.size ≤ x) := fun x hx hb => by
    rcases hb with rfl | hb | hb
    · exact h.mc.2.1 hx
    · exact (h.nc x hb).2.1 hx
    · have := (h.c x hx).2; omega
  have kO : ∀ x, Own x → ¬ (x = mb ∨ nv.ownBlock = some x ∨ wr.heap.size ≤ x) := fun x hx hb => by
    have h1 := (hown x hx).1
    rcases hb with rfl | hb | hb
    · have := h.mc.1; omega
    · have := (h.nc x hb).1; omega
    · omega
  have kG : ∀ x, x < wr.heap.size → ((Sh x ∨ W.heap.size ≤ x) ∧ ¬ C' x ∧ rv.ownBlock ≠ some x ∧ nv.ownBlock ≠ some x ∧ x ≠ mb) → ¬ (x = mb ∨ nv.ownBlock = some x ∨ wr.heap.size ≤ x) := fun x hx hl hb => by
    rcases hb with hb | hb | hb
    · exact hl.2.2.2.2 hb
    · exact hl.2.2.2.1 hb
    · omega
  have kN : ∀ x, x < wr.heap.size → nv.ownBlock ≠ some x → nv1.ownBlock ≠ some x := fun x hx hl hb => by
    rcases hn x hb with hb | hb
    · exact hl hb
    · omega
  refine ⟨hJ _ _ _ _ h.j (fun x hx => ho.block x (hx.elim (kC x) (kO x))) ho.size, fun x hx => ⟨(h.c x hx).1, Nat.lt_of_lt_of_le (h.c x hx).2 ho.size⟩, h.on.trans (ho.mono fun x hx => .inl (.inr ?_)),
    (h.tg.only ho (kG _ g1 h.tg.lo.1) (kG _ g2 h.tg.lo.2)).sub ⟨h.tg.lo.1.1, h.tg.lo.1.2.1, h.tg.lo.1.2.2.1, kN _ g1 h.tg.lo.1.2.2.2.1, h.tg.lo.1.2.2.2.2⟩ ⟨h.tg.lo.2.1, h.tg.lo.2.2.1, h.tg.lo.2.2.2.1, kN _ g2 h.tg.lo.2.2.2.2.1, h.tg.lo.2.2.2.2.2⟩,
    hm, h.q.only ho (fun b hb hx => ?_), h.rc, hq, fun b hb => ?_, hmp, h.mc⟩
  · rcases hx with rfl | hx | hx
    · exact h.mc.1
    · exact (h.nc x hx).1
    · omega
  · rcases hx with rfl | hx | hx
    · exact h.mc.2.2 hb
    · exact (h.nc b hx).2.2.1 hb
    · have := hrl b hb; omega
  · rcases hn b hb with hb | hb
    · exact h.nc b hb
    · exact ⟨by omega, fun hx => by have := (h.c b hx).2; omega, fun hx => by have := hrl b hx; omega, by omega⟩

/-- The ring is done. -/
theorem RMd.finish (h : RMd J C Sh W o gb k rv mb C' G0 ring ring.length 0 nv wr rb v G next) (L : Lev o G0 k ring) : RSt J C Sh W o gb (k + 1) nv wr C' rb v G next :=
  ⟨h.j, h.c, h.on, h.tg.sub ⟨h.tg.lo.1.1, h.tg.lo.1.2.1, h.tg.lo.1.2.2.2.1⟩ ⟨h.tg.lo.2.1, h.tg.lo.2.2.1, h.tg.lo.2.2.2.2.1⟩, h.mid.end L, h.nq, fun b hb => ⟨(h.nc b hb).1, (h.nc b hb).2.1⟩⟩
end
end Go.Proofs.Ytdckpjagmbdkgaa

/- The rings' iterator of package tiles. -/
namespace Go.Proofs.Ytdckpjagmbdkgaa
set_option linter.unusedSimpArgs false
set_option linter.unusedVariables false
open Go.RowKit
open Hy (Lev Mid)

attribute [local go_sem] Oper.semAt_some

theorem zero_bool9 (w : World) : (zeroValue 4).run Try.prog w = .ok (.bool false) w := by kernel_rfl

section
variable {J : Nat → (Nat → Prop) → World → Prop} {C Sh Own : Nat → Prop} {W : World} {o : Hy.Ord} {gb k : Nat} {rv : Value} {wr : World} {C' : Nat → Prop} {rb : Nat} {v : Value} {G : List Hy.Node} {ring : List Nat}
/-- After the yield. -/
theorem RSt.opened (h : RSt J C Sh W o gb k rv wr C' rb v G ring) (hJ : Stable Own J) (hown : ∀ x, Own x → x < W.heap.size ∧ ¬ Sh x) {W3 : World} {C3 : Nat → Prop} (hO3 : Only (Mine C' wr.heap.size) wr W3) (hC3 : ∀ x, C3 x → Mine C' wr.heap.size x ∧ x < W3.heap.size) (hJ3 : J (k + 1) C3 W3) :
    RMd J C Sh W o gb k rv W3.heap.size C3 G ring 0 0 (.slice none 0 0) (W3.alloc (.map #[] 0)) rb v G [] := by
  have hWr := h.on.size
  have h3 := hO3.size
  obtain ⟨_, _, _, _, _, _, g1, g2⟩ := h.tg.opened
  have hrl := h.q.lt
  have hb := (Below.refl W3.heap.size W3).alloc (Nat.le_refl _) (.map #[] 0)
  have k1 : ∀ x, x < wr.heap.size → ¬ C' x → ¬ Mine C' wr.heap.size x := fun x hx hc hm => by
    rcases hm with hm | hm
    · exact hc hm
    · omega
  have k2 : ∀ x, x < wr.heap.size → ¬ C' x → ¬ C3 x := fun x hx hc h3 => k1 x hx hc (hC3 x h3).1
  refine ⟨hJ _ _ _ _ hJ3 (fun x hx => hb.block x (hx.elim (fun hx => (hC3 x hx).2) (fun hx => by have := (hown x hx).1; omega))) hb.size, fun x hx => ⟨?_, Nat.lt_of_lt_of_le (hC3 x hx).2 hb.size⟩,
    (h.on.trans (hO3.mono fun x hx => ?_)).alloc (fun x hx => .inl (.inr (by omega))) _, ((h.tg.only hO3 (k1 _ g1 h.tg.lo.1.2.1) (k1 _ g2 h.tg.lo.2.2.1)).heap hb).sub ?_ ?_, Mid.begin h.lev,
    (h.q.only hO3 (fun b hb => k1 b (hrl b hb) (h.rc b hb).2)).later hb, fun b hb => ⟨(h.rc b hb).1, k2 b (hrl b hb) (h.rc b hb).2⟩, .inl ⟨rfl, rfl⟩, fun b hb => by simp [Value.ownBlock] at hb, mapAt_new W3 natV Value.bool, by omega, fun hx => ?_, fun hx => ?_⟩
  · rcases (hC3 x hx).1 with hm | hm
    · exact (h.c x hm).1
    · exact .inr (by omega)
  · rcases hx with hx | hx
    · exact .inl (h.c x hx).1
    · exact .inl (.inr (by omega))
  · exact ⟨h.tg.lo.1.1, k2 _ g1 h.tg.lo.1.2.1, h.tg.lo.1.2.2, by simp [Value.ownBlock], by omega⟩
  · exact ⟨h.tg.lo.2.1, k2 _ g2 h.tg.lo.2.2.1, h.tg.lo.2.2.2, by simp [Value.ownBlock], by omega⟩
  · have := (hC3 _ hx).2; omega
  · have := hrl _ hx; omega
end

/-- Words of a ring's tiles and of their neighbours are few. -/
theorem mid_small {o : Hy.Ord} {G0 G : List Hy.Node} {i k s : Nat} {ring next : List Nat} (h : Mid o G0 G i ring k s next) (hi : i ≤ 14) : G.length ≤ 100000000 := by
  have h1 := Hy.short_len h.inv h.top
  have h2 : 3 ^ (i + 1) ≤ 3 ^ 15 := Nat.pow_le_pow_right (by omega) (by omega)
  have h3 : 3 ^ 15 = 14348907 := by decide
  omega

set_option maxRecDepth 100000 in
set_option maxHeartbeats 4000000 in
theorem rings_iter {w : World} {o : Hy.Ord} {gb rb0 : Nat} {v0 : Value} (he : Hy.ordErr o.m01 o.m12 o.m02 = 0) (n nb pb : Nat) (hn : n ≤ 14) (hnb : w.cell? ⟨nb, 0, none⟩ = some (.int .i64 n)) (hpb : w.cell? ⟨pb, 0, none⟩ = some (.pointer (some ⟨gb, 0, none⟩)))
    (hT : TG w o (fun k => k ≠ nb ∧ k ≠ pb) gb rb0 v0 Hy.start) :
    IterS Try.prog 51 #[.pointer (some ⟨nb, 0, none⟩), .pointer (some ⟨pb, 0, none⟩)] (n + 1) (RingS o gb) (fun k => k = nb ∨ k = pb) (fun k => k = gb ∨ k = rb0) w := by
  intro l J Jx C W hW hOwn hSh hJ hJx hY h0 hC
  refine callsIn_wide.2 ?_
  have F : Hy.Fine o := Hy.fine_of he
  have h9 := Hy.ordErr_zero he
  have HO : Small o := ⟨by omega, by omega, by omega⟩
  have HF := Lib.hid F
  have HSTEP := Lib.hid (fun (B : Nat → Prop) => t04_step HO (B := B) (gb := gb) (lim := 1000000000) (Nat.le_refl _) 1000)
  have hN : ∀ W' : World, W'.heap[nb]? = W.heap[nb]? → W'.cell? ⟨nb, 0, none⟩ = some (.int .i64 n) := fun W' hh => (World.cell?_of_block (w := w) (a := ⟨nb, 0, none⟩) (hh.trans (hOwn nb (.inl rfl)).2.1)).trans hnb
  have hP : ∀ W' : World, W'.heap[pb]? = W.heap[pb]? → W'.cell? ⟨pb, 0, none⟩ = some (.pointer (some ⟨gb, 0, none⟩)) := fun W' hh => (World.cell?_of_block (w := w) (a := ⟨pb, 0, none⟩) (hh.trans (hOwn pb (.inr rfl)).2.1)).trans hpb
  have HN := Lib.hid hN
  have HP := Lib.hid hP
  have HOWN := Lib.hid (show ∀ x, (x = nb ∨ x = pb) → x < W.heap.size ∧ ¬ (x = gb ∨ x = rb0) from fun x hx => ⟨Nat.lt_of_lt_of_le (hOwn x hx).1 hW, fun hg => by
    have h1 := hT.lo.1; have h2 := hT.lo.2
    rcases hg with rfl | rfl <;> omega⟩)
  have HOC := Lib.hid (show ∀ x, (x = nb ∨ x = pb) → ¬ C x from fun x hx => (hOwn x hx).2.2)
  have hTW : TG W o (fun x => ((x = gb ∨ x = rb0) ∨ W.heap.size ≤ x) ∧ ¬ C x ∧ Value.ownBlock (.slice (some ⟨W.heap.size, 0, none⟩) 1 1) ≠ some x) gb rb0 v0 Hy.start := by
    obtain ⟨_, _, _, _, _, _, h1, h2⟩ := hT.opened
    refine ⟨(hSh gb (.inl rfl)).2.1.trans hT.graph, hT.row.of_heap (hSh rb0 (.inr rfl)).2.1 hW, hT.ne, ⟨⟨.inl (.inl rfl), (hSh gb (.inl rfl)).2.2, ?_⟩, ⟨.inl (.inr rfl), (hSh rb0 (.inr rfl)).2.2, ?_⟩⟩, hT.closed⟩
    · simp [Value.ownBlock]; omega
    · simp [Value.ownBlock]; omega
  have hb1 := (Below.refl W.heap.size W).alloc (Nat.le_refl _) (.cells #[.int .i64 0] 3)
  have HS0 := Lib.hid (show RSt J C (fun x => x = gb ∨ x = rb0) W o gb 0 (.slice (some ⟨W.heap.size, 0, none⟩) 1 1) (W.alloc (.cells #[.int .i64 0] 3)) C rb0 v0 Hy.start [0] from
    ⟨hJ 0 C W _ h0 (fun k hk => hb1.block k (hk.elim (hC k) (fun hk => (HOWN.out k hk).1))) hb1.size, fun x hx => ⟨.inl hx, Nat.lt_of_lt_of_le (hC x hx) hb1.size⟩, (Only.refl _ W).alloc (fun k hk => .inl (.inr hk)) _, hTW.heap hb1, Lev.begin o,
      .inr ⟨W.heap.size, QRow.new W [.int .i64 0] 1 1 3 (by simp) (by decide)⟩, fun b hb => by simp [Value.ownBlock] at hb; subst hb; exact ⟨Nat.le_refl _, fun hx => by have := hC _ hx; omega⟩⟩)
  have HJ := Lib.hid hJ; have HJX := Lib.hid hJx; have HY := Lib.hid hY; have HC := Lib.hid hC
  clear hN hP hOwn hSh hT hnb hpb hJ hJx hY h0 hC hb1 hTW F h9 HO he
  go_enter Try.func51, Try.ntmps51
  refine (wpIn_wide (n := 0)).1 ?_
  gi_wp2_with fail
  gi_loopw [4, 5] (fun rv kv wr => ∃ (k : Nat) (C' : Nat → Prop) (rb : Nat) (v : Value) (G : List Hy.Node) (ring : List Nat), kv = .int .i64 k ∧ k ≤ n + 1 ∧ Hid (RSt J C (fun x => x = gb ∨ x = rb0) W o gb k rv wr C' rb v G ring) ∧ Hid (Hy.levF o k = some (G, ring))) (fun _ kv _ => n + 1 - (intOf kv).toNat)
  case atStart => exact ⟨0, C, rb0, v0, Hy.start, [0], rfl, Nat.zero_le _, HS0, Lib.hid rfl⟩
  case round =>
    clear HS0
    obtain ⟨k, C', rb, v, G, ring, rfl, hk, HS, HDET⟩ := hrel
    have hsame : ∀ x, (x = nb ∨ x = pb) → wr.heap[x]? = W.heap[x]? := fun x hx => HS.out.on.block x (fun hb => by
      obtain ⟨h1, h2⟩ := HOWN.out x hx
      rcases hb with (hb | hb) | hb
      · exact HOC.out x hx hb
      · omega
      · exact h2 hb)
    have cn := HN.out wr (hsame nb (.inl rfl))
    clear hsame
    by_cases hlt : k ≤ n
    · have hki : (k : Int) ≤ (n : Int) := by omega
      have hmm := @run_makeMap Try.prog
      obtain ⟨a0, c0, hrv, _⟩ := HS.out.q.open
      obtain ⟨L, hL⟩ : ∃ L, L = (natVs ring).length := ⟨_, rfl⟩
      rw [← hL] at hrv
      subst hrv
      have HL := Lib.hid (show L = ring.length from by rw [hL]; simp [natVs])
      clear hL
      obtain ⟨fn, tmps, assign, body, hyl, hRd⟩ := HY.out k C' _ wr (by omega) (HS.out.shown HDET.out) HS.out.j (fun x hx => (HS.out.c x hx).2)
      have HRD := Lib.hid hRd
      clear hRd
      gi_wp2_with fail
      refine ⟨rfl, HRD.out.mono ?_⟩
      rintro e W3 ⟨hO3, C3, hC3, hend⟩
      rcases hend with ⟨rfl, hJ3⟩ | ⟨rfl, hJ3⟩
      · have HM0 := Lib.hid (HS.out.opened HJ.out HOWN.out hO3 hC3 hJ3)
        have HLEV := Lib.hid HS.out.lev
        have hrs := HS.out.lev.ring_small (by omega)
        clear hO3 hC3 hJ3 HS HRD hyl cn
        gi_wp2_with fail
        obtain ⟨mb, hmb⟩ : ∃ mb, mb = W3.heap.size := ⟨_, rfl⟩
        rw [← hmb] at HM0 ⊢
        clear hmb hmm
        generalize W3.alloc (.map #[] 0) = W4 at *
        refine (wpIn_wide (n := 0)).2 ?_
        go_loopw [6, 26] (fun nv pv wq => ∃ (p : Nat) (rb1 : Nat) (v1 : Value) (G1 : List Hy.Node) (next : List Nat), pv = .int .i64 p ∧ p ≤ ring.length ∧ Hid (RMd J C (fun x => x = gb ∨ x = rb0) W o gb k (.slice a0 L c0) mb C3 G ring p 0 nv wq rb1 v1 G1 next) ∧ Hid (Hy.gathN o k ring G (3 * p) = some (G1, next))) (fun _ pv _ => ring.length - (intOf pv).toNat)
        case atStart => exact ⟨0, rb, v, G, [], rfl, Nat.zero_le _, HM0, Lib.hid rfl⟩
        case round =>
          clear HM0
          obtain ⟨p, rb1, v1, G1, next, rfl, hp, HM, HGA⟩ := hrel
          by_cases hpl : p < ring.length
          · obtain ⟨a1, c1, hsl, hcells⟩ := HM.out.q.open
            obtain ⟨x, hx⟩ : ∃ x, ring[p]? = some x := ⟨ring[p], List.getElem?_eq_getElem hpl⟩
            obtain ⟨g, off, ha, hcell⟩ := hcells p (natV x) (by simp [natVs, hx])
            have hx0 := (HLEV.out.mem x).1 (List.mem_of_getElem? hx)
            have HX := Lib.hid hx
            have HX0 := Lib.hid hx0
            simp only [Value.slice.injEq] at hsl
            have hpL : (p : Int) < (L : Int) := by have := HL.out; omega
            have e1 := hsl.1
            rw [← e1] at ha
            subst ha
            unfold natV at hcell
            clear hcells hsl hx hx0 e1
            go_wp2_with fail
            go_loopw [6, 30] (fun nv sv wq => ∃ (s : Nat) (rb1 : Nat) (v1 : Value) (G1 : List Hy.Node) (next : List Nat), sv = .int .i64 s ∧ s ≤ 3 ∧ Hid (RMd J C (fun x => x = gb ∨ x = rb0) W o gb k (.slice (some ⟨g, off, none⟩) L c0) mb C3 G ring p s nv wq rb1 v1 G1 next) ∧ Hid (Hy.gathN o k ring G (3 * p + s) = some (G1, next))) (fun _ sv _ => 3 - (intOf sv).toNat)
            case atStart => exact ⟨0, rb1, v1, G1, next, rfl, Nat.zero_le _, HM, HGA⟩
            case round =>
              clear HM hcell HGA
              obtain ⟨s, rb1, v1, G1, next, rfl, hs3, HM, HGA⟩ := hrel
              by_cases hs : s < 3
              · have hown9 : ∀ (w' : World), Only (fun x => Mine C W.heap.size x ∨ (x = gb ∨ x = rb0)) W w' → ∀ x, (x = nb ∨ x = pb) → w'.heap[x]? = W.heap[x]? := fun w' ho x hx => ho.block x (fun hb => by
                  obtain ⟨h1, h2⟩ := HOWN.out x hx
                  rcases hb with (hb | hb) | hb
                  · exact HOC.out x hx hb
                  · omega
                  · exact h2 hb)
                have cp := HP.out wr (hown9 wr HM.out.on pb (.inr rfl))
                have hxl : x < G1.length := Nat.lt_of_lt_of_le HX0.out.1 HM.out.mid.len
                have hxw : (Hy.wd G1 x).length = k := by rw [HM.out.mid.hwd x HX0.out.1]; exact HX0.out.2
                obtain ⟨G2, y, hst, I2, X2, ht, _⟩ := Hy.step_ok HF.out (lim := 1000) 1000 Hy.No G1 x s HM.out.mid.inv hxl hs (by simp; omega) (fun _ h => h.elim)
                have HGS := Lib.hid (Hy.gath_step HGA.out HX.out hs hst)
                have hmid := Mid.step HLEV.out HM.out.mid HX.out hs I2 X2 ht
                have hmid0 := Mid.ext HLEV.out HM.out.mid HX.out I2 X2
                have hFr : Free (fun x => ((x = gb ∨ x = rb0) ∨ W.heap.size ≤ x) ∧ ¬ C3 x ∧ Value.ownBlock (.slice (some ⟨g, off, none⟩) L c0) ≠ some x ∧ Value.ownBlock u6 ≠ some x ∧ x ≠ mb) wr := fun q hq => by
                  have hWr := HM.out.on.size
                  exact ⟨.inr (by omega), fun h => by have := (HM.out.c q h).2; omega, fun h => by have := HM.out.q.lt q h; omega, fun h => by have := HM.out.nq.lt q h; omega, fun h => by have := HM.out.mp.lt; omega⟩
                have HST := Lib.hid (HSTEP.out _ wr rb1 v1 G1 x s G2 y HM.out.tg hFr hs hst (Nat.le_trans (mid_small hmid (by omega)) (by decide)))
                unfold T04Post at HST
                have HMID := Lib.hid hmid
                have HMID0 := Lib.hid hmid0
                have HOW9 := Lib.hid hown9
                clear hown9 hxl hxw hst I2 X2 ht hmid hmid0 hFr
                go_wp2_with fail
                refine HST.out.mono ?_
                rintro e w1 ⟨rb2, v2, rfl, hT2, hO2, _, hyl⟩
                have HM1 := Lib.hid (HM.out.grown HJ.out HOWN.out hO2 hT2 HMID0.out)
                have cp1 := HP.out w1 (HOW9.out w1 HM1.out.on pb (.inr rfl))
                obtain ⟨nd, hnd⟩ : ∃ nd, G2[y]? = some nd := ⟨G2[y], List.getElem?_eq_getElem hyl⟩
                obtain ⟨off2, cap2, rfl, hg2, hnode2, _⟩ := hT2.opened
                have cl := (hnode2 y nd hnd).nlen
                have hw : Hy.wd G2 y = nd.word := by unfold Hy.wd; rw [hnd]
                have hlk := HM1.out.mp.look keys_num Try.underlying104 y (zero_bool9 w1) false
                rw [look_seen] at hlk
                simp only [natV, Bool.false_eq_true, if_false] at hlk
                have hyi : (y : Int) < (G2.length : Int) := by omega
                have hmid := HMID.out
                rw [hw] at hmid
                have hgs := HGS.out
                rw [hw] at hgs
                clear hT2 hO2 hnd hnode2 hw HST HM cp
                by_cases hlen : k < nd.word.length
                · by_cases hyn : y ∈ next
                  · rw [if_pos hyn] at hlk
                    simp only [Option.map_some, Option.getD_some] at hlk
                    rw [if_neg (by simp [hyn])] at hmid hgs
                    have HGS2 := Lib.hid hgs
                    clear hgs
                    have HM2 := Lib.hid (show RMd J C (fun x => x = gb ∨ x = rb0) W o gb k (.slice (some ⟨g, off, none⟩) L c0) mb C3 G ring p (s + 1) u6 w1 rb2 _ G2 next from { HM1.out with mid := hmid })
                    have hli : (k : Int) < (nd.word.length : Int) := by omega
                    clear hmid hlen hyn HM1 HMID HMID0
                    go_wp2_with fail
                    go_roundw
                    case rel => exact ⟨s + 1, rb2, _, G2, next, by go_num, by omega, HM2, HGS2⟩
                    case measure => simp [intOf]; omega
                  · rw [if_neg hyn] at hlk
                    simp only [Option.map_none, Option.getD_none] at hlk
                    rw [if_pos ⟨hlen, hyn⟩] at hmid hgs
                    have HGS2 := Lib.hid hgs
                    clear hgs
                    have hli : (k : Int) < (nd.word.length : Int) := by omega
                    obtain ⟨a6, c6, hnv, _⟩ := HM1.out.nq.open
                    obtain ⟨L6, hL6⟩ : ∃ L6, L6 = (natVs next).length := ⟨_, rfl⟩
                    rw [← hL6] at hnv
                    subst hnv
                    have hnl : (natVs next).length ≤ 900000000 := by
                      have h1 := Hy.nodup_sub HM1.out.mid.nd (m := List.range G2.length) (fun z hz => List.mem_range.2 (HM1.out.mid.mem z hz).1)
                      have h2 := mid_small HM1.out.mid (by omega)
                      rw [List.length_range] at h1
                      simp [natVs]
                      omega
                    obtain ⟨ob, hput, hmp⟩ := HM1.out.mp.put keys_num Try.underlying104 y true
                    rw [put_seen hyn] at hmp
                    unfold natV at hput
                    have hml := HM1.out.mp.lt
                    have hnm : ∀ b, Value.ownBlock (.slice a6 L6 c6) = some b → b ≠ mb := fun b hb => (HM1.out.nc b hb).2.2.2
                    have hop : Only (fun x => x = mb) w1 (w1.putObj mb ob) := only_putObj (B := fun x => x = mb) w1 rfl ob
                    have hq5 : GQ (w1.putObj mb ob) (.slice a6 L6 c6) (natVs next) := HM1.out.nq.only hop (fun b hb hx => hnm b hb hx)
                    have HQ5 := Lib.hid hq5
                    have HMP := Lib.hid hmp
                    have HNM := Lib.hid hnm
                    have HOP := Lib.hid hop
                    have HML := Lib.hid hml
                    have HMI := Lib.hid hmid
                    have HNL := Lib.hid hnl
                    clear hmid hlen hyn HMID HMID0 hL6 hnl hmp hml hnm hop hq5
                    have HSZ := Lib.hid (show (w1.putObj mb ob).heap.size = w1.heap.size from by simp [World.putObj])
                    go_upto_region 16 with fail
                    clear hput
                    generalize w1.putObj mb ob = w5 at *
                    go_wp2_with (at_builtin; refine wpList_gq1 w5 rowInt rfl _ _ rfl (v := .slice a6 L6 c6) (xs := natVs next) rfl HQ5.out _ (.int .i64 y) rfl rfl HNL.out ?_)
                    intro v7 w7 hq7 ho7 hv7
                    have hs1 := HOP.out.size
                    have hsz := HSZ.out
                    have HM3 := Lib.hid (HM1.out.pushed HJ.out HOWN.out (nv1 := v7) (next1 := next ++ [y]) ((HOP.out.mono (fun x hx => .inl hx)).trans (ho7.mono (fun x hx => by
                        rcases hx with hx | hx
                        · exact .inr (.inl hx)
                        · exact .inr (.inr (by omega))))) (by simpa [natVs, natV] using hq7) (fun b hb => by
                        rcases hv7 b hb with hb | hb
                        · exact .inl hb
                        · exact .inr (by omega)) (HMP.out.of_heap (ho7.block mb (fun hx => by
                        rcases hx with hx | hx
                        · exact HNM.out mb hx rfl
                        · have := HML.out; omega))) HMI.out)
                    clear hq7 ho7 hv7 hs1 hsz HM1
                    go_wp2_with fail
                    go_roundw
                    case rel => exact ⟨s + 1, rb2, _, G2, next ++ [y], by go_num, by omega, HM3, HGS2⟩
                    case measure => simp [intOf]; omega
                · rw [if_neg (by simp [hlen])] at hmid hgs
                  have HGS2 := Lib.hid hgs
                  clear hgs
                  have HM2 := Lib.hid (show RMd J C (fun x => x = gb ∨ x = rb0) W o gb k (.slice (some ⟨g, off, none⟩) L c0) mb C3 G ring p (s + 1) u6 w1 rb2 _ G2 next from { HM1.out with mid := hmid })
                  have hli : ¬ (k : Int) < (nd.word.length : Int) := by omega
                  clear hmid hlen HM1 HMID HMID0
                  go_wp2_with fail
                  go_roundw
                  case rel => exact ⟨s + 1, rb2, _, G2, next, by go_num, by omega, HM2, HGS2⟩
                  case measure => simp [intOf]; omega
              · obtain rfl : s = 3 := by omega
                have HM2 := Lib.hid (show RMd J C (fun x => x = gb ∨ x = rb0) W o gb k (.slice (some ⟨g, off, none⟩) L c0) mb C3 G ring (p + 1) 0 u6 wr rb1 v1 G1 next from { HM.out with mid := HM.out.mid.row })
                clear HM hs
                go_wp2_with fail
                go_roundw
                case rel => exact ⟨p + 1, rb1, v1, G1, next, by go_num, hpl, HM2, Lib.hid (by have h := HGA.out; rwa [show 3 * p + 3 = 3 * (p + 1) by omega] at h)⟩
                case measure => simp [intOf]; omega
          · obtain rfl : p = ring.length := by omega
            have HR := Lib.hid (HM.out.finish HLEV.out)
            have hpL : ¬ ((ring.length : Nat) : Int) < (L : Int) := by have := HL.out; omega
            clear HM
            go_wp2_with fail
            gi_wp2_with fail
            go_roundw
            case rel => exact ⟨k + 1, C3, rb1, v1, G1, next, by go_num, by omega, HR, Lib.hid (by show (Hy.levF o k).bind _ = _; rw [HDET.out]; exact HGA.out)⟩
            case measure => simp [intOf]; omega
      · have HE := Lib.hid (show Only (fun x => Mine C W.heap.size x ∨ (x = gb ∨ x = rb0)) W W3 ∧ (∀ x, C3 x → Mine C W.heap.size x ∧ x < W3.heap.size) from by
          have h1 := HS.out.on.size
          have hm : ∀ x, Mine C' wr.heap.size x → Mine C W.heap.size x := fun x hx => by
            rcases hx with hx | hx
            · exact (HS.out.c x hx).1
            · exact .inr (by omega)
          exact ⟨HS.out.on.trans (hO3.mono fun x hx => .inl (hm x hx)), fun x hx => ⟨hm x (hC3 x hx).1, (hC3 x hx).2⟩⟩)
        have HJ3 := Lib.hid hJ3
        clear hO3 hC3 hJ3 HS HRD hyl cn
        gi_wp2_with fail
        go_returns
        exact ⟨⟨_, rfl⟩, HE.out.1, C3, HE.out.2, .inr ⟨k + 1, by omega, HJ3.out⟩⟩
    · obtain rfl : k = n + 1 := by omega
      have hki : ¬ ((n + 1 : Nat) : Int) ≤ (n : Int) := by omega
      gi_wp2_with fail
      go_end0
      exact ⟨⟨_, rfl⟩, HS.out.on, C', HS.out.c, .inl HS.out.j⟩
end Go.Proofs.Ytdckpjagmbdkgaa
