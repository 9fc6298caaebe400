/- The poller: what Wait tells, and in which order. -/
import Derived.Test.YtkeffebcmajhmaaPoll9
namespace Go.Proofs.Ytkeffebcmajhmaa
open Go.RowKit
set_option linter.unusedVariables false
set_option linter.unusedSimpArgs false
theorem allFrom_mem : ∀ (L : List Slot) (i : Nat) (h : Int × Int), h ∈ allFrom i L ↔ ∃ (k : Nat) (v : Int), h.1 = ((i + k : Nat) : Int) ∧ L[k]? = some (h.2, true, v)
  | [], i, h => by simp [allFrom]
  | d :: L, i, h => by
    simp only [allFrom, List.mem_append, allFrom_mem L (i + 1) h]
    constructor
    · rintro (h1 | ⟨k, v, h1, h2⟩)
      · obtain ⟨g, u, v⟩ := d
        cases u with
        | false => simp at h1
        | true =>
          simp at h1
          subst h1
          exact ⟨0, v, by simp, by simp⟩
      · exact ⟨k + 1, v, by rw [h1]; omega, by simpa using h2⟩
    · rintro ⟨k, v, h1, h2⟩
      cases k with
      | zero =>
        simp at h2
        subst h2
        left
        obtain ⟨a, b⟩ := h
        simp at h1 ⊢
        exact h1
      | succ k => exact .inr ⟨k, v, by rw [h1]; omega, by simpa using h2⟩
theorem allFrom_nodup : ∀ (L : List Slot) (i : Nat), ((allFrom i L).map (·.1)).Nodup
  | [], i => by simp [allFrom]
  | d :: L, i => by
    have ih := allFrom_nodup L (i + 1)
    simp only [allFrom]
    split
    · rw [List.singleton_append, List.map_cons, List.nodup_cons]
      refine ⟨fun hx => ?_, ih⟩
      obtain ⟨h, hm, he⟩ := List.mem_map.1 hx
      obtain ⟨k, v, h1, -⟩ := (allFrom_mem L (i + 1) h).1 hm
      rw [h1] at he
      simp at he
      omega
    · simpa using ih
/-- what one that is watched is told. -/
def evOf (N : NS) (h : Int × Int) (d : Wd) : List Ev := if ((toldD N d).1 || (toldD N d).2.1) = true then [(h, d.id, (toldD N d).1, (toldD N d).2.1)] else []
abbrev WL := List ((Int × Int) × Wd)
def findW (ds : WL) (h : Int × Int) : Option Wd := (ds.find? (fun x => x.1 == h)).map (·.2)
def evAt (N : NS) (ds : WL) (h : Int × Int) : List Ev := match findW ds h with | some d => evOf N h d | none => []
/-- the Events, in the slots' order. -/
def evsP (N : NS) (L : List Slot) (ds : WL) : List Ev := (allFrom 0 L).flatMap (evAt N ds)
/-- what is remembered behind it. -/
def toldP (N : NS) (ds : WL) : WL := ds.map fun x => (x.1, (toldD N x.2).2.2)
theorem toldD_id (N : NS) (d : Wd) : (toldD N d).2.2.id = d.id := by
  unfold toldD
  split <;> rfl
/-- the next that is picked. -/
def pickI (p : List Int) (n : Nat) : Nat := match p with
  | [] => 0
  | x :: _ => (max 0 x).toNat % n
def pickGo : Nat → List Int → List Ev → List Ev
  | 0, _, _ => []
  | n + 1, p, r => match r[pickI p r.length]? with
    | some e => e :: pickGo n (p.drop 1) (r.eraseIdx (pickI p r.length))
    | none => []
def pickE (p : List Int) (r : List Ev) : List Ev := pickGo r.length p r
theorem pickI_lt (p : List Int) {n : Nat} (h : 0 < n) : pickI p n < n := by
  unfold pickI
  cases p with
  | nil => exact h
  | cons x p => exact Nat.mod_lt _ h
theorem pickE_nil (p : List Int) : pickE p [] = [] := rfl
theorem pickE_step (p : List Int) {r : List Ev} {e : Ev} (h : r[pickI p r.length]? = some e) : pickE p r = e :: pickE (p.drop 1) (r.eraseIdx (pickI p r.length)) := by
  have hl := (List.getElem?_eq_some_iff.1 h).1
  obtain ⟨n, hn⟩ : ∃ n, r.length = n + 1 := ⟨r.length - 1, by omega⟩
  have he : (r.eraseIdx (pickI p r.length)).length = n := by
    rw [List.length_eraseIdx_of_lt hl]
    omega
  unfold pickE
  rw [he, show pickGo r.length = pickGo (n + 1) by rw [hn]]
  show (match r[pickI p r.length]? with | some e => e :: pickGo n (p.drop 1) (r.eraseIdx (pickI p r.length)) | none => []) = _
  rw [h]
section
variable {w : World} {pb n s m : Nat} {Fn Fs : List Nat} {N : NS} {L : List Slot} {es : List PX} {clock : Nat}
theorem PAt.keyed (h : PAt w pb n s m Fn Fs N L es clock) {x : PX} (hx : x ∈ es) : (x.1.s, x.1.g) ∈ allFrom 0 L := by
  obtain ⟨k, h1, h2⟩ := h.key x hx
  exact (allFrom_mem L 0 _).2 ⟨k, x.2.id, by rw [h1]; simp, h2⟩
theorem PAt.entry (h : PAt w pb n s m Fn Fs N L es clock) {k : Int × Int} (hk : k ∈ allFrom 0 L) : ∃ x ∈ es, (x.1.s, x.1.g) = k := by
  obtain ⟨j, v, h1, h2⟩ := (allFrom_mem L 0 k).1 hk
  obtain ⟨x, hx, he⟩ := h.all j k.2 v h2
  obtain ⟨i, h3, h4⟩ := h.key x hx
  have hij : i = j := by omega
  subst hij
  rw [h2] at h4
  simp at h4
  refine ⟨x, hx, ?_⟩
  obtain ⟨a, b⟩ := k
  simp at h1 h4 ⊢
  exact ⟨by rw [he, h1], h4.1.symm⟩
theorem PAt.find (h : PAt w pb n s m Fn Fs N L es clock) {x : PX} (hx : x ∈ es) : findW (es.map (fun x => ((x.1.s, x.1.g), x.2))) (x.1.s, x.1.g) = some x.2 := by
  unfold findW
  cases hf : (es.map (fun x => ((x.1.s, x.1.g), x.2))).find? (fun y => y.1 == (x.1.s, x.1.g)) with
  | none =>
    have := List.find?_eq_none.1 hf ((x.1.s, x.1.g), x.2) (List.mem_map.2 ⟨x, hx, rfl⟩)
    simp at this
  | some y =>
    have h1 := List.mem_of_find?_eq_some hf
    have h2 := List.find?_some hf
    obtain ⟨z, hz, rfl⟩ := List.mem_map.1 h1
    simp at h2
    have := nodup_inj (f := fun x : PX => x.1.s) h.kn hz hx h2.1
    subst this
    rfl
end
end Go.Proofs.Ytkeffebcmajhmaa
