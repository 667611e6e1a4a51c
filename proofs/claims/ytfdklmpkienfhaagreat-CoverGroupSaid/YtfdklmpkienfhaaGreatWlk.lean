import Derived.Maps.Range
import Derived.Test.YtfdklmpkienfhaaGreatMapS
/- The keys of a map, in an order that nobody knows: each once. -/
namespace Go.Proofs.YtfdklmpkienfhaaGreat
set_option linter.unusedSimpArgs false
set_option linter.unusedVariables false
open Go.RowKit
open Go.ChangeMaps (setBlock)

section
variable {α β : Type} {encK : α → Value} {encV : β → Value}

/-- What a walk over a map's entries has handed out: entries with their keys. -/
structure Walked (es : List MapEntry) (ks : List α) (seen : Array Nat) (ds : List (MapEntry × α)) : Prop where
  sub : ∀ z ∈ ds, z ∈ es.zip ks
  nodup : ds.Nodup
  seen : seen.toList = ds.map (·.1.born)

theorem walked_nil (es : List MapEntry) (ks : List α) : Walked es ks #[] [] := ⟨fun z hz => by (cases hz), List.nodup_nil, rfl⟩

theorem nodup_of_map {γ δ : Type} (f : γ → δ) : ∀ {l : List γ}, (l.map f).Nodup → l.Nodup
  | [], _ => List.nodup_nil
  | a :: l, h => by
    rw [List.map_cons, List.nodup_cons] at h
    exact List.nodup_cons.2 ⟨fun ha => h.1 (List.mem_map.2 ⟨a, ha, rfl⟩), nodup_of_map f h.2⟩

theorem inj_of_nodup {γ δ : Type} (f : γ → δ) : ∀ {l : List γ}, (l.map f).Nodup → ∀ {x y : γ}, x ∈ l → y ∈ l → f x = f y → x = y
  | [], _, x, y, hx, _, _ => by cases hx
  | a :: l, h, x, y, hx, hy, he => by
    rw [List.map_cons, List.nodup_cons] at h
    rcases List.mem_cons.1 hx with ex | hx'
    · rcases List.mem_cons.1 hy with ey | hy'
      · rw [ex, ey]
      · exact (h.1 (List.mem_map.2 ⟨y, hy', by rw [← he, ex]⟩)).elim
    · rcases List.mem_cons.1 hy with ey | hy'
      · exact (h.1 (List.mem_map.2 ⟨x, hx', by rw [he, ey]⟩)).elim
      · exact inj_of_nodup f h.2 hx' hy' he

theorem zip_fst {es : List MapEntry} {ks : List α} (h : es.length = ks.length) : (es.zip ks).map (·.1) = es := by
  rw [List.map_fst_zip (by omega)]

theorem zip_snd {es : List MapEntry} {ks : List α} (h : es.length = ks.length) : (es.zip ks).map (·.2) = ks := by
  rw [List.map_snd_zip (by omega)]

theorem zip_key {es : List MapEntry} {kv : List (α × β)} (h : Reads encK encV es kv) : ∀ z ∈ es.zip (kv.map (·.1)), z.1.key = encK z.2 := by
  intro z hz
  obtain ⟨i, hi, rfl⟩ := List.mem_iff_getElem.1 hz
  have h1 := congrArg (fun l => l[i]?) h
  have hi2 : i < es.length ∧ i < kv.length := by
    simp only [List.length_zip, List.length_map] at hi
    omega
  simp only [List.getElem?_map] at h1
  rw [List.getElem?_eq_getElem hi2.1, List.getElem?_eq_getElem hi2.2] at h1
  simp at h1
  simp [h1.1]

theorem walked_next {es : Array MapEntry} {kv : List (α × β)} (hr : Reads encK encV es.toList kv) {seen : Array Nat} {ds : List (MapEntry × α)} (h : Walked es.toList (kv.map (·.1)) seen ds) (hk : (kv.map (·.1)).Nodup)
    {e : MapEntry} (he : e ∈ (leftOf es seen).toList) : ∃ a, e.key = encK a ∧ a ∈ kv.map (·.1) ∧ a ∉ ds.map (·.2) ∧ Walked es.toList (kv.map (·.1)) (seen.push e.born) (ds ++ [(e, a)]) := by
  have hlen : es.toList.length = (kv.map (·.1)).length := by rw [reads_length hr]; simp
  unfold leftOf at he
  simp at he
  obtain ⟨hem, hes⟩ := he
  have hz : e ∈ (es.toList.zip (kv.map (·.1))).map (·.1) := by rw [zip_fst hlen]; simpa using hem
  obtain ⟨⟨e', a⟩, hz2, rfl⟩ := List.mem_map.1 hz
  clear hz
  have hnot : (e', a) ∉ ds := fun hd => by
    apply hes
    have : e'.born ∈ seen.toList := by rw [h.seen]; exact List.mem_map.2 ⟨_, hd, rfl⟩
    simpa using this
  refine ⟨a, zip_key hr _ hz2, ?_, ?_, ?_, ?_, ?_⟩
  · rw [← zip_snd hlen]; exact List.mem_map.2 ⟨_, hz2, rfl⟩
  · intro ha
    obtain ⟨z, hzd, hza⟩ := List.mem_map.1 ha
    have := inj_of_nodup (·.2) (by rw [zip_snd hlen]; exact hk) (h.sub z hzd) hz2 hza
    rw [this] at hzd
    exact hnot hzd
  · intro z hzd
    rcases List.mem_append.1 hzd with hzd | hzd
    · exact h.sub z hzd
    · rw [List.mem_singleton.1 hzd]; exact hz2
  · rw [List.nodup_append]
    exact ⟨h.nodup, by simp, fun a ha b hb => by rw [List.mem_singleton.1 hb]; rintro rfl; exact hnot ha⟩
  · rw [Array.toList_push, h.seen, List.map_append]; rfl

theorem walked_end {es : Array MapEntry} {kv : List (α × β)} (hr : Reads encK encV es.toList kv) {clock : Nat} (hs : Stamps es.toList clock) {seen : Array Nat} {ds : List (MapEntry × α)} (h : Walked es.toList (kv.map (·.1)) seen ds) (hk : (kv.map (·.1)).Nodup)
    (he : (leftOf es seen).size = 0) : (ds.map (·.2)).Perm (kv.map (·.1)) := by
  have hlen : es.toList.length = (kv.map (·.1)).length := by rw [reads_length hr]; simp
  rw [← zip_snd hlen]
  refine List.Perm.map _ ?_
  rw [List.perm_ext_iff_of_nodup h.nodup (nodup_of_map (·.2) (by rw [zip_snd hlen]; exact hk))]
  refine fun z => ⟨h.sub z, fun hz => ?_⟩
  have hz1 : z.1 ∈ es.toList := by rw [← zip_fst hlen]; exact List.mem_map.2 ⟨z, hz, rfl⟩
  have hin : z.1.born ∈ seen.toList := by
    apply Decidable.byContradiction
    intro hn
    have : z.1 ∈ leftOf es seen := by
      unfold leftOf
      simp
      exact ⟨by simpa using hz1, by simpa using hn⟩
    have h0 : leftOf es seen = #[] := Array.eq_empty_of_size_eq_zero he
    rw [h0] at this
    simp at this
  rw [h.seen] at hin
  obtain ⟨y, hy, hyz⟩ := List.mem_map.1 hin
  have hb : ((es.toList.zip (kv.map (·.1))).map (fun z => z.1.born)).Nodup := by
    have := hs.2
    rw [← zip_fst hlen, List.map_map] at this
    exact this
  have := inj_of_nodup (fun z : MapEntry × α => z.1.born) hb (h.sub y hy) hz hyz
  rw [← this]
  exact hy
end
end Go.Proofs.YtfdklmpkienfhaaGreat

