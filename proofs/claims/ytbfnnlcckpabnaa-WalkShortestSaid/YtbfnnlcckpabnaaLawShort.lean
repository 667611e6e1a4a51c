/- Plain Lean: a walk along a word reaches its end just where no wall stands on the way. -/
import Derived.Test.YtbfnnlcckpabnaaBfsLaw
import Derived.Test.YtbfnnlcckpabnaaSane
import Derived.Test.YtbfnnlcckpabnaaLd8
import Derived.Test.YtbfnnlcckpabnaaS10
namespace Go.Proofs.Ytbfnnlcckpabnaa
set_option linter.unusedSimpArgs false
set_option linter.unusedVariables false
open Go.RowKit
section
open Hy (Lets IsNF Eqv Le Word)
section
variable {o : Hy.Ord} {wall : Word → Int → Bool} {su : Word}

theorem unwalled_snoc {w : Word} {c : Nat} (hc : c < 3) (h : Unwalled o wall su (w ++ Hy.letter c)) : Unwalled o wall su w ∧ ∃ t nx, IsNF o (su ++ w) t ∧ IsNF o (su ++ (w ++ Hy.letter c)) nx ∧ wall (Hy.nearOf t nx) (c : Int) = false := by
  generalize hx : w ++ Hy.letter c = x at h
  cases h with
  | nil => simp [Hy.letter] at hx
  | @snoc w' c' t nx h1 h2 h3 h4 h5 =>
    unfold Hy.letter at hx
    obtain ⟨e1, e2⟩ := List.append_inj' hx rfl
    subst e1
    have e3 := congrArg UInt8.toNat (List.singleton_inj.1 e2)
    simp at e3
    have e4 : c = c' := by omega
    subst e4
    exact ⟨h1, t, nx, h3, h4, h5⟩

theorem unwalled_take : ∀ (n : Nat) {a b : Word}, b.length = n → Lets b → Unwalled o wall su (a ++ b) → Unwalled o wall su a
  | 0, a, b, hb, _, h => by
    have : b = [] := List.length_eq_zero_iff.1 hb
    subst this
    simpa using h
  | n + 1, a, b, hb, hl, h => by
    rcases List.eq_nil_or_concat b with rfl | ⟨b', x, rfl⟩
    · cases hb
    rw [List.concat_eq_append] at h hb hl
    rw [← List.append_assoc, ← Hy.ofNat_toNat] at h
    have h1 := (unwalled_snoc (hl x (by simp)) h).1
    exact unwalled_take n (by simpa using hb) (Lets.app.1 hl).1 h1

theorem lets_take {l : Word} (h : Lets l) (k : Nat) : Lets (l.take k) := fun c hc => h c (List.mem_of_mem_take hc)

theorem go_total (F : Hy.Fine o) (hsu : Lets su) (hlen : su.length ≤ 60) {l : Word} (hl : Lets l) (hll : l.length ≤ 60) : ∀ r x, r ≤ l.length → IsNF o (su ++ l.take (l.length - r)) x → Unwalled o wall su (l.take (l.length - r)) →
    ∃ p, Hy.goSteps o 1000 wall su l r x = some p ∧ ((p.2 = l.length ∧ IsNF o (su ++ l) p.1 ∧ Unwalled o wall su l) ∨ (p.2 < l.length ∧ ¬ Unwalled o wall su l))
  | 0, x, _, hx, hu => ⟨(x, l.length), rfl, .inl ⟨rfl, by simpa using hx, by simpa using hu⟩⟩
  | r + 1, x, hr, hx, hu => by
    obtain ⟨k, hk⟩ : ∃ k, k = l.length - (r + 1) := ⟨_, rfl⟩
    have hkl : k < l.length := by omega
    have hk1 : l.length - r = k + 1 := by omega
    rw [← hk] at hx hu
    have ht : l.take (k + 1) = l.take k ++ Hy.letter l[k].toNat := by rw [Hy.ofNat_toNat, List.take_succ_eq_append_getElem hkl]
    have hc : l[k].toNat < 3 := hl _ (List.getElem_mem hkl)
    obtain ⟨nx, hn, hN⟩ := Hy.norm_ok F (fuel := 1000) (w := su ++ l.take (k + 1)) (Lets.app.2 ⟨hsu, lets_take hl _⟩) (by simp; omega) (by simp; omega)
    have hwe : Hy.wordsErr [su, l.take (k + 1)] = 0 := by
      rw [Hy.wordsErr_two, wordErr_lets hsu hlen, wordErr_lets (lets_take hl _) (by simp; omega)]
      rfl
    have hN' := hN
    rw [ht] at hN'
    unfold Hy.goSteps
    rw [hk1, if_neg (by simpa using hwe), hn, ← hk, List.getElem?_eq_getElem hkl]
    simp only
    cases hw : wall (Hy.nearOf x nx) (l[k].toNat : Int) with
    | true =>
      rw [if_pos rfl]
      refine ⟨_, rfl, .inr ⟨hkl, fun hul => ?_⟩⟩
      have h1 : Unwalled o wall su (l.take (k + 1)) := by
        refine unwalled_take (b := l.drop (k + 1)) _ rfl (fun c hc => hl c (List.mem_of_mem_drop hc)) ?_
        rw [List.take_append_drop]; exact hul
      rw [ht] at h1
      obtain ⟨_, t, n', h2, h3, h4⟩ := unwalled_snoc hc h1
      rw [h2.uniq hx, h3.uniq hN', hw] at h4
      cases h4
    | false =>
      simp only [Bool.false_eq_true, if_false]
      have hu' : Unwalled o wall su (l.take (k + 1)) := by rw [ht]; exact .snoc hu hc hx hN' hw
      exact go_total F hsu hlen hl hll r nx (by omega) (by rw [hk1]; exact hN) (by rw [hk1]; exact hu')

/-- A walk along a whole word. -/
theorem go_word (F : Hy.Fine o) (hsu : Lets su) (hlen : su.length ≤ 60) (hnf : IsNF o su su) {l : Word} (hl : Lets l) (hll : l.length ≤ 60) :
    ∃ p, Hy.goSteps o 1000 wall su l l.length su = some p ∧ ((p.2 = l.length ∧ IsNF o (su ++ l) p.1 ∧ Unwalled o wall su l) ∨ (p.2 < l.length ∧ ¬ Unwalled o wall su l)) :=
  go_total F hsu hlen hl hll l.length su (Nat.le_refl _) (by simpa using hnf) (by simpa using Unwalled.nil)
end
end

section
open Hy (Lets IsNF Eqv Le)
theorem BSlice.mono {N N' : Nat} {w : World} {v : Value} {l : List UInt8} (h : BSlice N w v l) (hN : N ≤ N') : BSlice N' w v l := by
  obtain ⟨a, cap, h1, h2, h3⟩ := h
  refine ⟨a, cap, h1, h2, fun k hk => ?_⟩
  obtain ⟨g, off, h4, h5, h6⟩ := h3 k hk
  exact ⟨g, off, h4, by omega, h6⟩

theorem parse_fine {L : List UInt8} {o : Hy.Ord} {q : WallList × ThingList} (h : parse L = some (o, q)) : Hy.ordErr o.m01 o.m12 o.m02 = 0 := by
  match L, h with
  | a :: b :: c :: r, h =>
    simp only [parse] at h
    by_cases he : Hy.ordErr (a.toNat : Int) (b.toNat : Int) (c.toNat : Int) = 0
    · rw [if_pos he] at h
      obtain ⟨p, _, h2⟩ := Option.map_eq_some_iff.1 h
      cases h2
      exact he
    · rw [if_neg he] at h; cases h

/-- What the search answers, and what no other word does better. -/
theorem short_ok {o : Hy.Ord} {wall : List UInt8 → Int → Bool} (F : Hy.Fine o) {u t : List UInt8} (hu : Hy.wordErr u = 0) (ht : Hy.wordErr t = 0) :
    ∃ nu nt xs, Hy.norm o 1000 u = some nu ∧ Hy.norm o 1000 t = some nt ∧ IsNF o t nt ∧ reachAll o 1000 wall nu 88573 [(nu, [])] [(nu, true)] = some xs ∧
      (∀ x, Lets x → x.length ≤ 60 → ∃ p, Hy.goSteps o 1000 wall nu x x.length nu = some p ∧ ((p.2 = x.length ∧ IsNF o (nu ++ x) p.1 ∧ Unwalled o wall nu x) ∨ (p.2 < x.length ∧ ¬ Unwalled o wall nu x))) ∧
      (∀ p, wayIn xs nt = some p → Unwalled o wall nu p ∧ Lets p ∧ p.length ≤ 10 ∧ IsNF o (nu ++ p) nt ∧ ∀ x, Unwalled o wall nu x → Lets x → x.length ≤ 10 → IsNF o (nu ++ x) nt → Le p x) ∧
      (wayIn xs nt = none → ∀ x, Unwalled o wall nu x → Lets x → x.length ≤ 10 → ¬ IsNF o (nu ++ x) nt) := by
  have hul := (Hy.wordErr_letters hu).2
  have htl := (Hy.wordErr_letters ht).2
  have hlu := lets_of_err hu
  have hlt := lets_of_err ht
  obtain ⟨nu, hnu, hNu⟩ := Hy.norm_ok F (fuel := 1000) hlu (by omega) (by omega)
  obtain ⟨nt, hnt, hNt⟩ := Hy.norm_ok F (fuel := 1000) hlt (by omega) (by omega)
  have hnul : nu.length ≤ 60 := Nat.le_trans hNu.len hul
  have hnlets := (Hy.same_tile F hNu.eqv).1.2 hlu
  obtain ⟨xs, h1, h2, h3⟩ := way_ok (wall := wall) F (fuel := 1000) (Nat.le_refl _) hnlets hnul hNu.self
  exact ⟨nu, nt, xs, hnu, hnt, hNt, h1, fun x hx hxl => go_word F hnlets hnul hNu.self hx hxl, (h3 nt).1, (h3 nt).2⟩

set_option maxRecDepth 100000 in
set_option maxHeartbeats 8000000 in
theorem law_short {w : World} {v : Value} {L : List UInt8} (h : BSlice w.heap.size w v L) (hL : L.length ≤ 9223372036854775807) (u t x : List UInt8) (hul : u.length ≤ 9223372036854775807) (htl : t.length ≤ 9223372036854775807) (hxl : x.length ≤ 9223372036854775807) :
    Calls Try.prog 4 #[v, str u, str t, str x] w fun e w' => e = .returned (.bool true) ∧ Below w.heap.size w w' := by
  have hv := h
  obtain ⟨ia, ic, rfl, _, _⟩ := hv
  have HX := Lib.hid (fun W => r03_CheckWord x W hxl)
  have HU := Lib.hid (fun W => r03_CheckWord u W hul)
  have HT := Lib.hid (fun W => r03_CheckWord t W htl)
  have HSANE := Lib.hid (fun W => sane7 W)
  have H := Lib.hid h
  clear h
  by_cases h1 : 25000 < L.length
  · have g1 : (25000 : Int) < (L.length : Int) := by omega
    unfold str
    go_enter Try.func4, Try.ntmps4
    go_wp2_with fail
    go_ret
    exact ⟨rfl, Below.refl _ _⟩
  by_cases h2 : 10 < x.length
  · have g1 : (10 : Int) < (x.length : Int) := by omega
    unfold str
    go_enter Try.func4, Try.ntmps4
    go_wp2_with fail
    go_ret
    exact ⟨rfl, Below.refl _ _⟩
  by_cases e1 : Hy.wordErr x = 0
  case neg =>
    have g1 : (Hy.wordErr x != 0) = true := by rw [bne_iff_ne]; exact e1
    generalize Hy.wordErr x = er at HX g1
    clear e1
    unfold str at *
    go_enter Try.func4, Try.ntmps4
    go_wp2_with fail
    refine (HX.out _).mono ?_
    rintro e w1 ⟨rfl, hB1⟩
    have HB1 := Lib.hid hB1; clear hB1
    go_wp2_with fail
    go_ret
    exact ⟨rfl, HB1.out⟩
  by_cases e2 : Hy.wordErr u = 0
  case neg =>
    have g1 : (Hy.wordErr u != 0) = true := by rw [bne_iff_ne]; exact e2
    generalize Hy.wordErr u = er at HU g1
    rw [e1] at HX
    clear e1 e2
    unfold str at *
    go_enter Try.func4, Try.ntmps4
    go_wp2_with fail
    refine (HX.out _).mono ?_
    rintro e w1 ⟨rfl, hB1⟩
    have HB1 := Lib.hid hB1; clear hB1
    go_wp2_with fail
    refine (HU.out _).mono ?_
    rintro e w2 ⟨rfl, hB2⟩
    have HB2 := Lib.hid (HB1.out.trans (hB2.mono HB1.out.size)); clear hB2
    go_wp2_with fail
    go_ret
    exact ⟨rfl, HB2.out⟩
  by_cases e3 : Hy.wordErr t = 0
  case neg =>
    have g1 : (Hy.wordErr t != 0) = true := by rw [bne_iff_ne]; exact e3
    generalize Hy.wordErr t = er at HT g1
    rw [e1] at HX
    rw [e2] at HU
    clear e1 e2 e3
    unfold str at *
    go_enter Try.func4, Try.ntmps4
    go_wp2_with fail
    refine (HX.out _).mono ?_
    rintro e w1 ⟨rfl, hB1⟩
    have HB1 := Lib.hid hB1; clear hB1
    go_wp2_with fail
    refine (HU.out _).mono ?_
    rintro e w2 ⟨rfl, hB2⟩
    have HB2 := Lib.hid (HB1.out.trans (hB2.mono HB1.out.size)); clear hB2
    go_wp2_with fail
    refine (HT.out _).mono ?_
    rintro e w3 ⟨rfl, hB3⟩
    have HB3 := Lib.hid (HB2.out.trans (hB3.mono HB2.out.size)); clear hB3
    go_wp2_with fail
    go_ret
    exact ⟨rfl, HB3.out⟩
  have HE1 := Lib.hid e1
  have HE2 := Lib.hid e2
  have HE3 := Lib.hid e3
  rw [e1] at HX
  rw [e2] at HU
  rw [e3] at HT
  have HLD := Lib.hid (fun (W : World) (hB : Below w.heap.size w W) => walk_Load (w := W) ((H.out.below hB).mono hB.size))
  have HLD7 := Lib.hid (fun (W : World) (hB : Below w.heap.size w W) => r07_Load (w := W) ((H.out.below hB).mono hB.size) (by omega))
  have H10 := Lib.hid (show x.length ≤ 10 by omega)
  clear e1 e2 e3 H
  unfold str at *
  go_enter Try.func4, Try.ntmps4
  go_wp2_with fail
  refine (HX.out _).mono ?_
  rintro e w1 ⟨rfl, hB1⟩
  have HB1 := Lib.hid hB1; clear hB1
  go_wp2_with fail
  refine (HU.out _).mono ?_
  rintro e w2 ⟨rfl, hB2⟩
  have HB2 := Lib.hid (HB1.out.trans (hB2.mono HB1.out.size)); clear hB2
  go_wp2_with fail
  refine (HT.out _).mono ?_
  rintro e w3 ⟨rfl, hB3⟩
  have HB3 := Lib.hid (HB2.out.trans (hB3.mono HB2.out.size)); clear hB3 HB1 HB2 HX HU HT
  go_wp2_with fail
  refine (HLD.out _ HB3.out).mono ?_
  intro e w4 hpost
  unfold LoadPost at hpost
  cases hp : parse L with
  | none =>
    rw [hp] at hpost
    obtain ⟨rfl, hB4⟩ := hpost
    have HB4 := Lib.hid (HB3.out.trans (hB4.mono HB3.out.size)); clear hB4
    have H7 := Lib.hid (HLD7.out _ HB4.out)
    rw [hp] at H7
    clear hp HLD HLD7
    go_wp2_with fail
    refine H7.out.mono ?_
    rintro e w5 ⟨mb7, rfl, hB5, _, _⟩
    have HB5 := Lib.hid (HB4.out.trans (hB5.mono HB4.out.size)); clear hB5
    go_wp2_with fail
    refine (HSANE.out _).mono ?_
    rintro e w6 ⟨rfl, hB6⟩
    have HB6 := Lib.hid (HB5.out.trans (hB6.mono HB5.out.size)); clear hB6
    go_wp2_with fail
    go_ret
    exact ⟨rfl, HB6.out⟩
  | some q =>
    obtain ⟨o, W, T⟩ := q
    rw [hp] at hpost
    obtain ⟨mb, wb, tb, rfl, hM, _, _, _, hB4⟩ := hpost
    have HM := Lib.hid hM
    have HB4 := Lib.hid (HB3.out.trans (hB4.mono HB3.out.size)); clear hB4
    have H7 := Lib.hid (HLD7.out _ HB4.out)
    rw [hp] at H7
    have hok := parse_fine hp
    have F : Hy.Fine o := by have := Hy.fine_of hok; exact this
    have hS : Small o := by have := small_of hok; exact this
    obtain ⟨nu, nt, xs, hnu, hnt, hNt, hxs, hgo, hsome, hnone⟩ := short_ok (wall := wallIn (W.map fun e => (e, true))) F HE2.out HE3.out
    have hlu := lets_of_err HE2.out
    have hlt := lets_of_err HE3.out
    have hlx := lets_of_err HE1.out
    have htl60 := (Hy.wordErr_letters HE3.out).2
    have hxl60 := (Hy.wordErr_letters HE1.out).2
    have HWORD := Lib.hid (fun W => r03_Word_nf F hS hlt (by omega) hNt W)
    have HWAY := Lib.hid (fun W' (hm : MRep W' o mb wb tb (W.map fun e => (e, true)) T) => walk_Way hm hS u t 1000 88573 nu nt (by rw [Hy.wordsErr_two, HE2.out, HE3.out]; rfl) hnu hnt xs hxs)
    have HGO := Lib.hid (fun (y : List UInt8) (hy : Hy.wordErr y = 0) (p : List UInt8 × Nat) (hpp : Hy.goSteps o 1000 (wallIn (W.map fun e => (e, true))) nu y y.length nu = some p) W' (hm : MRep W' o mb wb tb (W.map fun e => (e, true)) T) => by
      obtain ⟨ny, hny, _⟩ := Hy.norm_ok F (fuel := 1000) (lets_of_err hy) (by have := (Hy.wordErr_letters hy).2; omega) (by have := (Hy.wordErr_letters hy).2; omega)
      exact walk_Go hm hS u y 1000 nu ny (by rw [Hy.wordsErr_two, HE2.out, hy]; rfl) hnu hny p hpp)
    have HGW := Lib.hid hgo
    have HSOME := Lib.hid hsome
    have HNONE := Lib.hid hnone
    clear hnu hnt hNt hxs hgo hsome hnone hM hp HLD HLD7 hok
    unfold ordersV str mptr at *
    go_wp2_with fail
    refine H7.out.mono ?_
    rintro e w5 ⟨mb7, rfl, hB5, _, hmap⟩
    obtain ⟨vw, vt, hm7, _, _⟩ := hmap o W T rfl
    have q0 := cell_of_heap hm7 0
    have q1 := cell_of_heap hm7 1
    have q2 := cell_of_heap hm7 2
    simp at q0 q1 q2
    have HM5 := Lib.hid (HM.out.grow hB5)
    have HB5 := Lib.hid (HB4.out.trans (hB5.mono HB4.out.size))
    clear hB5 hm7 hmap H7
    go_wp2_with fail
    refine (HWORD.out _).mono ?_
    rintro e w6 ⟨rfl, hB6⟩
    have HM6 := Lib.hid (HM5.out.grow hB6)
    have HB6 := Lib.hid (HB5.out.trans (hB6.mono HB5.out.size))
    clear hB6 q0 q1 q2
    go_wp2_with fail
    refine (HWAY.out _ HM6.out).mono ?_
    rintro e w7 ⟨hB7, rfl⟩
    have HM7 := Lib.hid (HM6.out.grow hB7)
    have HB7 := Lib.hid (HB6.out.trans (hB7.mono HB6.out.size))
    clear hB7
    obtain ⟨⟨e2, n2⟩, hp2, hcase2⟩ := HGW.out x hlx hxl60
    have HGX := Lib.hid (HGO.out x HE1.out (e2, n2) hp2)
    have HC2 := Lib.hid hcase2
    simp only at HGX
    clear hp2 hcase2
    have HX10 := Lib.hid H10.out
    cases hway : wayIn xs nt with
    | some p =>
      obtain ⟨hpu, hpl, hp10, hpn, hleast⟩ := HSOME.out p hway
      have hperr := wordErr_lets hpl (by omega)
      obtain ⟨⟨e1, n1⟩, hp1, hcase1⟩ := HGW.out p hpl (by omega)
      obtain ⟨hn1, hnf1⟩ : n1 = p.length ∧ e1 = nt := by
        rcases hcase1 with ⟨h1, h2, _⟩ | ⟨_, h2⟩
        · exact ⟨h1, h2.uniq hpn⟩
        · exact absurd hpu h2
      subst hn1
      have hnf1' := hnf1.symm
      subst hnf1'
      have HGP := Lib.hid (HGO.out p hperr _ hp1)
      simp only at HGP
      have HP10 := Lib.hid hp10
      clear hpu hpl hpn hperr hp1 hcase1 hway HGW HSOME HNONE HGO
      have g1 : ¬ 10 < p.length := by omega
      have g2 : ¬ (10 : Int) < (p.length : Int) := by omega
      simp only
      go_wp2_with fail
      refine (HGP.out _ HM7.out).mono ?_
      rintro e w8 ⟨rfl, hB8⟩
      have HM8 := Lib.hid (HM7.out.grow hB8)
      have HB8 := Lib.hid (HB7.out.trans (hB8.mono HB7.out.size)); clear hB8
      go_wp2_with fail
      refine (HGX.out _ HM8.out).mono ?_
      rintro e w9 ⟨rfl, hB9⟩
      have HB9 := Lib.hid (HB8.out.trans (hB9.mono HB8.out.size)); clear hB9
      by_cases hlt2 : n2 < x.length
      · go_wp2_with fail
        refine (HSANE.out _).mono ?_
        rintro e w10 ⟨rfl, hB10⟩
        have HB10 := Lib.hid (HB9.out.trans (hB10.mono HB9.out.size)); clear hB10
        go_wp2_with fail
        go_ret
        exact ⟨rfl, HB10.out⟩
      · obtain ⟨hn2, hnf2, hunw⟩ : n2 = x.length ∧ IsNF o (nu ++ x) e2 ∧ Unwalled o (wallIn (W.map fun e => (e, true))) nu x := by
          rcases HC2.out with h | ⟨h, _⟩
          · exact h
          · exact absurd h hlt2
        subst hn2
        by_cases heq : e2 = nt
        · subst heq
          have hle := hleast x hunw hlx HX10.out hnf2
          have hah : aheadW x p = false := aheadW_le.2 hle
          have HAH := Lib.hid (fun W' => r07_Ahead x p W')
          rw [hah] at HAH
          unfold str at HAH
          clear hle hah hnf2 hunw hleast
          go_wp2_with fail
          refine (HSANE.out _).mono ?_
          rintro e w10 ⟨rfl, hB10⟩
          have HB10 := Lib.hid (HB9.out.trans (hB10.mono HB9.out.size)); clear hB10
          go_wp2_with fail
          refine (HAH.out _).mono ?_
          rintro e w11 ⟨rfl, rfl⟩
          go_wp2_with fail
          go_ret
          exact ⟨rfl, HB10.out⟩
        · have b1 : ((⟨e2.toArray⟩ : ByteArray) == ⟨nt.toArray⟩) = false := by rw [bytes_beq, beq_eq_false_iff_ne]; exact heq
          have b2 : (e2 == nt) = false := by rw [beq_eq_false_iff_ne]; exact heq
          have b3 : ¬ ((⟨e2.toArray⟩ : ByteArray) = ⟨nt.toArray⟩) := fun h => heq (by have := congrArg ByteArray.data h; simpa using this)
          have b4 : ((⟨e2.toArray⟩ : ByteArray) != ⟨nt.toArray⟩) = true := by rw [bne, b1]; rfl
          clear heq hnf2 hunw
          go_wp2_with fail
          refine (HSANE.out _).mono ?_
          rintro e w10 ⟨rfl, hB10⟩
          have HB10 := Lib.hid (HB9.out.trans (hB10.mono HB9.out.size)); clear hB10
          go_wp2_with fail
          go_ret
          exact ⟨rfl, HB10.out⟩
    | none =>
      simp only
      go_wp2_with fail
      refine (HGX.out _ HM7.out).mono ?_
      rintro e w9 ⟨rfl, hB9⟩
      have HB9 := Lib.hid (HB7.out.trans (hB9.mono HB7.out.size)); clear hB9
      by_cases hlt2 : n2 < x.length
      · go_wp2_with fail
        refine (HSANE.out _).mono ?_
        rintro e w10 ⟨rfl, hB10⟩
        have HB10 := Lib.hid (HB9.out.trans (hB10.mono HB9.out.size)); clear hB10
        go_wp2_with fail
        go_ret
        exact ⟨rfl, HB10.out⟩
      · obtain ⟨hn2, hnf2, hunw⟩ : n2 = x.length ∧ IsNF o (nu ++ x) e2 ∧ Unwalled o (wallIn (W.map fun e => (e, true))) nu x := by
          rcases HC2.out with h | ⟨h, _⟩
          · exact h
          · exact absurd h hlt2
        subst hn2
        by_cases heq : e2 = nt
        · subst heq
          exact absurd hnf2 (HNONE.out hway x hunw hlx HX10.out)
        · have b1 : ((⟨e2.toArray⟩ : ByteArray) == ⟨nt.toArray⟩) = false := by rw [bytes_beq, beq_eq_false_iff_ne]; exact heq
          have b2 : (e2 == nt) = false := by rw [beq_eq_false_iff_ne]; exact heq
          have b3 : ¬ ((⟨e2.toArray⟩ : ByteArray) = ⟨nt.toArray⟩) := fun h => heq (by have := congrArg ByteArray.data h; simpa using this)
          have b4 : ((⟨e2.toArray⟩ : ByteArray) != ⟨nt.toArray⟩) = true := by rw [bne, b1]; rfl
          clear heq hnf2 hunw
          go_wp2_with fail
          refine (HSANE.out _).mono ?_
          rintro e w10 ⟨rfl, hB10⟩
          have HB10 := Lib.hid (HB9.out.trans (hB10.mono HB9.out.size)); clear hB10
          go_wp2_with fail
          go_ret
          exact ⟨rfl, HB10.out⟩
end
end Go.Proofs.Ytbfnnlcckpabnaa
