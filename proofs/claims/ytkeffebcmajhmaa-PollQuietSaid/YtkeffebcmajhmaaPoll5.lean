/- The poller: plain laws of its keys. -/
import Derived.Test.YtkeffebcmajhmaaPoll4
namespace Go.Proofs.Ytkeffebcmajhmaa
open Go.RowKit
set_option linter.unusedVariables false
set_option linter.unusedSimpArgs false
theorem PE.is_iff {s g : Int} {e : PE} : PE.is s g e = true ↔ e.s = s ∧ e.g = g := by simp [PE.is]
theorem lookE_in {es : List PX} (hn : (es.map (·.1.s)).Nodup) {x : PX} (hx : x ∈ es) : lookE (es.map (·.1)) x.1.s x.1.g = .pointer (some ⟨x.1.p, 0, none⟩) := by
  unfold lookE
  cases hj : (es.map (·.1)).findIdx? (PE.is x.1.s x.1.g) with
  | none =>
    have := List.findIdx?_eq_none_iff.1 hj x.1 (List.mem_map.2 ⟨x, hx, rfl⟩)
    rw [PE.is_iff.2 ⟨rfl, rfl⟩] at this
    cases this
  | some j =>
    obtain ⟨hl, h1, -⟩ := List.findIdx?_eq_some_iff_getElem.1 hj
    have h2 := PE.is_iff.1 h1
    obtain ⟨i, hi⟩ := List.getElem?_of_mem hx
    obtain ⟨hil, hi2⟩ := List.getElem?_eq_some_iff.1 hi
    have hjl : j < es.length := by simpa using hl
    have he : i = j := by
      have hs : (es.map (·.1.s))[i]? = (es.map (·.1.s))[j]? := by
        have h4 : es[j]? = some es[j] := List.getElem?_eq_getElem hjl
        simp only [List.getElem_map] at h2
        simp [List.getElem?_map, hi, h4, h2.1]
      exact (List.getElem?_inj (by simpa using hil) hn).1 hs
    subst he
    simp [List.getD, List.getElem?_map, hi]
theorem lookE_none {es : List PX} {s g : Int} (h : ∀ x ∈ es, ¬ (x.1.s = s ∧ x.1.g = g)) : lookE (es.map (·.1)) s g = .pointer none := by
  unfold lookE
  rw [List.findIdx?_eq_none_iff.2]
  intro e he
  obtain ⟨x, hx, rfl⟩ := List.mem_map.1 he
  cases hc : PE.is s g x.1 with
  | false => rfl
  | true => exact absurd (PE.is_iff.1 hc) (h x hx)
theorem find_none {es : List PX} {s g : Int} (h : ∀ x ∈ es, x.1.s ≠ s) : (es.map (·.1)).findIdx? (PE.is s g) = none := by
  rw [List.findIdx?_eq_none_iff]
  intro e he
  obtain ⟨x, hx, rfl⟩ := List.mem_map.1 he
  cases hc : PE.is s g x.1 with
  | false => rfl
  | true => exact absurd (PE.is_iff.1 hc).1 (h x hx)
/-- how many have not come yet. -/
def unseen (es : List PX) (seen : Array Nat) : Nat := (es.filter fun x => !seen.contains x.1.b).length
theorem unseen_lt {es : List PX} {seen : Array Nat} {x : PX} (hx : x ∈ es) (h : seen.contains x.1.b = false) : unseen es (seen.push x.1.b) < unseen es seen := by
  unfold unseen
  have h1 : (es.filter fun y => !(seen.push x.1.b).contains y.1.b) = (es.filter fun y => !seen.contains y.1.b).filter fun y => !(seen.push x.1.b).contains y.1.b := by
    rw [List.filter_filter]
    congr 1
    funext y
    cases hc : seen.contains y.1.b with
    | false => simp
    | true =>
      have : (seen.push x.1.b).contains y.1.b = true := by
        simp at hc ⊢
        exact .inl hc
      rw [this]
      rfl
  rw [h1, List.length_filter_lt_length_iff_exists]
  exact ⟨x, by simp [hx]; simpa using h, by simp⟩
/-- where Put puts: no entry has that slot; what the slots are then. -/
theorem put_keys {L : List Slot} {v : Int} : (∀ (k : Nat) (d : Slot), k ≠ freeAt L → L[k]? = some d → (putL L v)[k]? = some d) ∧ (putL L v)[freeAt L]? = some (putG L, true, v) ∧ (∀ (k : Nat) (d : Slot), k ≠ freeAt L → (putL L v)[k]? = some d → L[k]? = some d) ∧ (∀ d, L[freeAt L]? = some d → d.2.1 = false) := by
  have hle := freeAt_le L
  unfold putL putG
  cases hd : L[freeAt L]? with
  | none =>
    have hge : L.length ≤ freeAt L := by
      rw [List.getElem?_eq_none_iff] at hd
      exact hd
    have he : freeAt L = L.length := by omega
    rw [he]
    refine ⟨fun k d hk hL => ?_, by simp, fun k d hk hL => ?_, by simp⟩
    · have := (List.getElem?_eq_some_iff.1 hL).1
      simp only
      rw [List.getElem?_append_left this]
      exact hL
    · simp only at hL
      have := (List.getElem?_eq_some_iff.1 hL).1
      simp at this
      rw [List.getElem?_append_left (by omega)] at hL
      exact hL
  | some d =>
    have hl := (List.getElem?_eq_some_iff.1 hd).1
    refine ⟨fun k e hk hL => ?_, by simp [hl], fun k e hk hL => ?_, fun e he => ?_⟩
    · simp only
      rw [List.getElem?_set_ne (Ne.symm hk)]
      exact hL
    · simp only at hL
      rw [List.getElem?_set_ne (Ne.symm hk)] at hL
      exact hL
    · have := freeAt_free hd
      injection he with he
      rw [← he]
      exact this
theorem nodup_inj {α β : Type} {f : α → β} {l : List α} (hn : (l.map f).Nodup) {x z : α} (hx : x ∈ l) (hz : z ∈ l) (h : f x = f z) : x = z := by
  obtain ⟨i, hi⟩ := List.getElem?_of_mem hx
  obtain ⟨j, hj⟩ := List.getElem?_of_mem hz
  have hil := (List.getElem?_eq_some_iff.1 hi).1
  have he : i = j := (List.getElem?_inj (l := l.map f) (by simpa using hil) hn).1 (by simp [List.getElem?_map, hi, hj, h])
  subst he
  rw [hi] at hj
  injection hj
end Go.Proofs.Ytkeffebcmajhmaa
