/- The poller: one more that is watched. -/
import Derived.Test.YtkeffebcmajhmaaPoll5
namespace Go.Proofs.Ytkeffebcmajhmaa
open Go.RowKit
set_option linter.unusedVariables false
set_option linter.unusedSimpArgs false
section
variable {w w3 w5 w6 : World} {pb n s m p : Nat} {Fn Fs Fs' : List Nat} {N : NS} {L : List Slot} {es : List PX} {clock : Nat} {d : Wd}
theorem PAt.fresh (h : PAt w pb n s m Fn Fs N L es clock) : ∀ x ∈ es, x.1.s ≠ ((freeAt L : Nat) : Int) := by
  intro x hx he
  obtain ⟨k, h1, h2⟩ := h.key x hx
  have hk : k = freeAt L := by omega
  subst hk
  have := (put_keys (L := L) (v := 0)).2.2.2 _ h2
  simp at this
theorem PAt.add (h : PAt w pb n s m Fn Fs N L es clock) (hs3 : SRep w3 s Fs' 4096 (putL L d.id) (es.length + 1)) (hla : Later Fs w Fs') (hk3 : Keeps Fs w w3) (hk5 : Keeps [] w3 w5) (hp : w3.heap.size ≤ p) (hb : Blk w5 p 153 (wcells d))
    (hm : MapB w6 m (es.map (·.1) ++ [(⟨(freeAt L : Nat), putG L, p, clock⟩ : PE)]) (clock + 1)) (hk6 : Keeps [m] w5 w6) :
    PAt w6 pb n s m Fn Fs' N (putL L d.id) (es ++ [((⟨(freeAt L : Nat), putG L, p, clock⟩ : PE), d)]) (clock + 1) := by
  obtain ⟨a1, a2, a3, a4, a5⟩ := h.apart
  have hz3 := hk3.size
  have hk5' : Keeps Fs w w5 := hk3.trans hk5 (by simp)
  have hall : Keeps (m :: Fs) w w6 := (hk5'.mono (by simp +contextual)).trans hk6 (by simp)
  have hk36 : Keeps [m] w3 w6 := (hk5.mono (by simp)).trans hk6 (by simp)
  obtain ⟨q1, q2, q3, q4⟩ := put_keys (L := L) (v := d.id)
  have hms : m ∉ Fs := fun hx => (h.d2 _ hx).2.1 rfl
  refine ⟨h.blk.keeps hall (fun hx => ?_), h.net.keeps hall (fun k hF hx => ?_), ?_, ?_, fun x hx => ?_, fun x hx => ?_, ?_, ?_, ?_, fun x hx => ?_, fun k g v hL => ?_, fun k hF => ?_, fun k hF => ?_⟩
  · simp at hx
    rcases hx with hx | hx
    · exact a1 hx.symm
    · exact (h.d2 _ hx).1 rfl
  · simp at hx
    rcases hx with hx | hx
    · exact (h.d1 k hF).2.2.1 hx
    · exact (h.d1 k hF).1 hx
  · have := hs3.keeps hk36 (fun k hk hx => ?_)
    · simpa using this
    · simp at hx
      subst hx
      rcases hla k hk with e | e
      · exact hms e
      · omega
  · simpa using hm
  · simp only [List.mem_append, List.mem_singleton] at hx
    rcases hx with hx | rfl
    · refine (h.at_ x hx).keeps hall (fun hc => ?_)
      simp at hc
      rcases hc with hc | hc
      · exact (a2 x hx).2 hc
      · exact (h.d2 _ hc).2.2 x hx rfl
    · refine hb.keeps hk6 (fun hc => ?_)
      simp at hc
      omega
  · simp only [List.mem_append, List.mem_singleton] at hx
    rcases hx with hx | rfl
    · have := h.born x hx
      omega
    · simp
  · rw [List.map_append, List.nodup_append]
    refine ⟨h.bn, by simp, fun a ha b hb2 he => ?_⟩
    obtain ⟨x, hx, rfl⟩ := List.mem_map.1 ha
    simp at hb2
    have := h.born x hx
    omega
  · rw [List.map_append, List.nodup_append]
    refine ⟨h.pn, by simp, fun a ha b hb2 he => ?_⟩
    obtain ⟨x, hx, rfl⟩ := List.mem_map.1 ha
    simp at hb2
    have := a5 x hx
    omega
  · rw [List.map_append, List.nodup_append]
    refine ⟨h.kn, by simp, fun a ha b hb2 he => ?_⟩
    obtain ⟨x, hx, rfl⟩ := List.mem_map.1 ha
    simp at hb2
    exact h.fresh x hx (he.trans hb2)
  · simp only [List.mem_append, List.mem_singleton] at hx
    rcases hx with hx | rfl
    · obtain ⟨k, h1, h2⟩ := h.key x hx
      exact ⟨k, h1, q1 k _ (fun e => h.fresh x hx (by omega)) h2⟩
    · exact ⟨freeAt L, rfl, q2⟩
  · by_cases hk : k = freeAt L
    · exact ⟨_, List.mem_append_right _ (List.mem_singleton.2 rfl), by simp [hk]⟩
    · obtain ⟨x, hx, he⟩ := h.all k g v (q3 k _ hk hL)
      exact ⟨x, List.mem_append_left _ hx, he⟩
  · obtain ⟨b1, b2, b3, b4⟩ := h.d1 k hF
    have hkw := h.net.flt k hF
    refine ⟨fun hx => ?_, b2, b3, fun x hx => ?_⟩
    · rcases hla k hx with e | e
      · exact b1 e
      · omega
    · simp only [List.mem_append, List.mem_singleton] at hx
      rcases hx with hx | rfl
      · exact b4 x hx
      · simp
        omega
  · have hkw := hs3.flt k hF
    rcases hla k hF with e | e
    · obtain ⟨b1, b2, b3⟩ := h.d2 k e
      refine ⟨b1, b2, fun x hx => ?_⟩
      simp only [List.mem_append, List.mem_singleton] at hx
      rcases hx with hx | rfl
      · exact b3 x hx
      · simp
        omega
    · refine ⟨by omega, by omega, fun x hx => ?_⟩
      simp only [List.mem_append, List.mem_singleton] at hx
      rcases hx with hx | rfl
      · have := a5 x hx
        omega
      · simp
        omega
end
end Go.Proofs.Ytkeffebcmajhmaa
