/- The poller in memory; New by contract. -/
import Derived.Test.YtkeffebcmajhmaaWd
namespace Go.Proofs.Ytkeffebcmajhmaa
open Go.RowKit
set_option linter.unusedVariables false
set_option linter.unusedSimpArgs false
abbrev PX := PE × Wd
/-- Block pb is a poller: its net, its slab, its map, what is watched. -/
structure PAt (w : World) (pb n s m : Nat) (Fn Fs : List Nat) (N : NS) (L : List Slot) (es : List PX) (clock : Nat) : Prop where
  blk : Blk w pb 93 (pcells n s m)
  net : NRep pc w n Fn N
  slab : SRep w s Fs 4096 L (es.length : Int)
  map : MapB w m (es.map (·.1)) clock
  at_ : ∀ x ∈ es, Blk w x.1.p 153 (wcells x.2)
  born : ∀ x ∈ es, x.1.b < clock
  bn : (es.map (·.1.b)).Nodup
  pn : (es.map (·.1.p)).Nodup
  kn : (es.map (·.1.s)).Nodup
  key : ∀ x ∈ es, ∃ k : Nat, x.1.s = (k : Int) ∧ L[k]? = some (x.1.g, true, x.2.id)
  all : ∀ (k : Nat) (g v : Int), L[k]? = some (g, true, v) → ∃ x ∈ es, x.1.s = (k : Int)
  d1 : ∀ k ∈ Fn, k ∉ Fs ∧ k ≠ pb ∧ k ≠ m ∧ ∀ x ∈ es, k ≠ x.1.p
  d2 : ∀ k ∈ Fs, k ≠ pb ∧ k ≠ m ∧ ∀ x ∈ es, k ≠ x.1.p
theorem MapB.ne_blk {w : World} {m clock : Nat} {es : List PE} (h : MapB w m es clock) {g : Nat} {t : TypeId} {cs : Array Value} (hg : Blk w g t cs) : m ≠ g := by
  rintro rfl
  unfold MapB at h
  unfold Blk at hg
  rw [h] at hg
  cases hg
section
variable {w w' : World} {pb n s m : Nat} {Fn Fs : List Nat} {N : NS} {L : List Slot} {es : List PX} {clock : Nat}
theorem PAt.keeps {K : List Nat} (h : PAt w pb n s m Fn Fs N L es clock) (hk : Keeps K w w') (hK : ∀ k ∈ K, k ≠ pb ∧ k ∉ Fn ∧ k ∉ Fs ∧ k ≠ m ∧ ∀ x ∈ es, k ≠ x.1.p) : PAt w' pb n s m Fn Fs N L es clock :=
  ⟨h.blk.keeps hk (fun hx => (hK _ hx).1 rfl), h.net.keeps hk (fun k hF hx => (hK k hx).2.1 hF), h.slab.keeps hk (fun k hF hx => (hK k hx).2.2.1 hF), h.map.keeps hk (fun hx => (hK _ hx).2.2.2.1 rfl),
    fun x hx => (h.at_ x hx).keeps hk (fun hc => (hK _ hc).2.2.2.2 x hx rfl), h.born, h.bn, h.pn, h.kn, h.key, h.all, h.d1, h.d2⟩
theorem PAt.next (h : PAt w pb n s m Fn Fs N L es clock) (hk : Keeps [] w w') : PAt w' pb n s m Fn Fs N L es clock := h.keeps hk (by simp)
/-- the poller's blocks lie apart of each other. -/
theorem PAt.apart (h : PAt w pb n s m Fn Fs N L es clock) : m ≠ pb ∧ (∀ x ∈ es, x.1.p ≠ pb ∧ x.1.p ≠ m) ∧ pb < w.heap.size ∧ m < w.heap.size ∧ (∀ x ∈ es, x.1.p < w.heap.size) :=
  ⟨h.map.ne_blk h.blk, fun x hx => ⟨(h.at_ x hx).ne_ h.blk (by decide), Ne.symm (h.map.ne_blk (h.at_ x hx))⟩, h.blk.lt, h.map.lt, fun x hx => (h.at_ x hx).lt⟩
/-- the net has gone on. -/
theorem PAt.netStep {N' : NS} (h : PAt w pb n s m Fn Fs N L es clock) (hd : NDone pc w n Fn N' w') : ∃ Fn', PAt w' pb n s m Fn' Fs N' L es clock ∧ LaterF Fn w Fn' ∧ Keeps Fn w w' := by
  obtain ⟨⟨F', h1, h2⟩, h3⟩ := hd
  obtain ⟨a1, a2, a3, a4, a5⟩ := h.apart
  refine ⟨F', ⟨h.blk.keeps h3 (fun hx => (h.d1 _ hx).2.1 rfl), h1, h.slab.keeps h3 (fun k hk hx => (h.d1 k hx).1 hk), h.map.keeps h3 (fun hx => (h.d1 _ hx).2.2.1 rfl), fun x hx => (h.at_ x hx).keeps h3 (fun hc => (h.d1 _ hc).2.2.2 x hx rfl), h.born, h.bn, h.pn, h.kn, h.key, h.all, fun k hk => ?_, h.d2⟩, h2, h3⟩
  rcases h2 k hk with e | e
  · exact h.d1 k e
  · refine ⟨fun hx => ?_, by omega, by omega, fun x hx => ?_⟩
    · have := h.slab.flt k hx
      omega
    · have := a5 x hx
      omega
/-- what is watched has changed in what is remembered of it. -/
theorem PAt.upd {K : List Nat} (h : PAt w pb n s m Fn Fs N L es clock) (f : PX → Wd) (hf : ∀ x ∈ es, (f x).id = x.2.id) (hk : Keeps K w w') (hK : ∀ k ∈ K, ∃ x ∈ es, k = x.1.p) (hb : ∀ x ∈ es, Blk w' x.1.p 153 (wcells (f x))) :
    PAt w' pb n s m Fn Fs N L (es.map fun x => (x.1, f x)) clock := by
  obtain ⟨a1, a2, a3, a4, a5⟩ := h.apart
  have e1 : (es.map fun x => (x.1, f x)).map (·.1) = es.map (·.1) := by simp [List.map_map, Function.comp_def]
  refine ⟨h.blk.keeps hk (fun hx => ?_), h.net.keeps hk (fun k hF hx => ?_), ?_, ?_, ?_, ?_, ?_, ?_, ?_, ?_, ?_, ?_, ?_⟩
  · obtain ⟨x, hx, he⟩ := hK _ hx
    exact (a2 x hx).1 he.symm
  · obtain ⟨x, hx, he⟩ := hK _ hx
    exact (h.d1 k hF).2.2.2 x hx he
  · rw [List.length_map]
    refine h.slab.keeps hk (fun k hF hx => ?_)
    obtain ⟨x, hx, he⟩ := hK _ hx
    exact (h.d2 k hF).2.2 x hx he
  · rw [e1]
    refine h.map.keeps hk (fun hx => ?_)
    obtain ⟨x, hx, he⟩ := hK _ hx
    exact (a2 x hx).2 he.symm
  · intro x hx
    obtain ⟨y, hy, rfl⟩ := List.mem_map.1 hx
    exact hb y hy
  · intro x hx
    obtain ⟨y, hy, rfl⟩ := List.mem_map.1 hx
    exact h.born y hy
  · simpa [List.map_map, Function.comp_def] using h.bn
  · simpa [List.map_map, Function.comp_def] using h.pn
  · simpa [List.map_map, Function.comp_def] using h.kn
  · intro x hx
    obtain ⟨y, hy, rfl⟩ := List.mem_map.1 hx
    obtain ⟨k, h1, h2⟩ := h.key y hy
    exact ⟨k, h1, by simpa [hf y hy] using h2⟩
  · intro k g v hL
    obtain ⟨x, hx, he⟩ := h.all k g v hL
    exact ⟨(x.1, f x), List.mem_map.2 ⟨x, hx, rfl⟩, he⟩
  · intro k hF
    obtain ⟨b1, b2, b3, b4⟩ := h.d1 k hF
    refine ⟨b1, b2, b3, fun x hx => ?_⟩
    obtain ⟨y, hy, rfl⟩ := List.mem_map.1 hx
    exact b4 y hy
  · intro k hF
    obtain ⟨b2, b3, b4⟩ := h.d2 k hF
    refine ⟨b2, b3, fun x hx => ?_⟩
    obtain ⟨y, hy, rfl⟩ := List.mem_map.1 hx
    exact b4 y hy
end
theorem pnew_nil (w : World) : Calls Try.prog 51 #[.pointer none] w fun e w' => e = .returned (.tuple #[.pointer none, .int .i64 1]) ∧ Keeps [] w w' := by
  go_enter Try.func51, Try.ntmps51
  go_wp2
  go_ret2
  exact ⟨rfl, Keeps.refl _ _⟩
def PNewPost (w : World) (n : Nat) (Fn : List Nat) (N : NS) (e : Ending) (w' : World) : Prop :=
  ∃ pb s m, e = .returned (.tuple #[.pointer (some ⟨pb, 0, none⟩), .int .i64 0]) ∧ PAt w' pb n s m Fn [s] N [] [] 0 ∧ w.heap.size ≤ pb ∧ w.heap.size ≤ s ∧ w.heap.size ≤ m ∧ Keeps [] w w'
theorem ponew_ok (n : Nat) (Fn : List Nat) (N : NS) (w : World) (h : NRep pc w n Fn N) : Calls Try.prog 51 #[.pointer (some ⟨n, 0, none⟩)] w (PNewPost w n Fn N) := by
  have H := hid h
  clear h
  have hmm := @run_makeMap Try.prog
  go_enter Try.func51, Try.ntmps51
  go_wp2_with fail
  refine (snew_ok 4096 _ (by omega) (by omega)).mono ?_
  rintro e w1 ⟨rfl, hs1, hk1⟩
  have HS1 := hid hs1
  have HK1 := hid hk1
  have hz1 := hk1.size
  have hsl := hs1.flt w.heap.size (by simp)
  clear hs1 hk1
  go_wp2_with fail
  go_ret2
  have hF := H.out.flt
  refine ⟨_, _, _, rfl, ⟨?_, H.out.keeps ((HK1.out.alloc _).alloc _) (fun _ _ => List.not_mem_nil), (HS1.out.keeps (((Keeps.refl [] w1).alloc _).alloc _) (fun _ _ => List.not_mem_nil)), ?_, by simp, by simp, List.nodup_nil, List.nodup_nil, List.nodup_nil, by simp, by simp, fun k hk => ?_, fun k hk => ?_⟩, by (try simp only [World.size_alloc]); omega, Nat.le_refl _, by simpa using hz1, (HK1.out.alloc _).alloc _⟩
  · exact Blk.newAt (by simp)
  · exact (Below.heap_alloc _ _ _ (by simp)).trans (heap_alloc_new w1 _)
  · have := hF k hk
    simp
    omega
  · simp at hk
    subst hk
    simp
    omega
/-- the poller, its own blocks and what it watches, in the order of the map. -/
def PRep (w : World) (pb n : Nat) (F : List Nat) (N : NS) (L : List Slot) (ds : List ((Int × Int) × Wd)) : Prop :=
  ∃ s m Fn Fs es clock, PAt w pb n s m Fn Fs N L es clock ∧ ds = es.map (fun x => ((x.1.s, x.1.g), x.2)) ∧ F = pb :: m :: (Fn ++ (Fs ++ es.map (·.1.p)))
section
variable {w w' : World} {pb n : Nat} {F : List Nat} {N : NS} {L : List Slot} {ds : List ((Int × Int) × Wd)}
theorem PRep.keeps {K : List Nat} (h : PRep w pb n F N L ds) (hk : Keeps K w w') (hK : ∀ k ∈ K, k ∉ F) : PRep w' pb n F N L ds := by
  obtain ⟨s, m, Fn, Fs, es, clock, h, h1, rfl⟩ := h
  refine ⟨s, m, Fn, Fs, es, clock, h.keeps hk (fun k hx => ?_), h1, rfl⟩
  have := hK k hx
  simp at this
  obtain ⟨b1, b2, b3, b4, b5⟩ := this
  exact ⟨b1, b3, b4, b2, fun x hx he => b5 x.1 x.2 hx he.symm⟩
theorem PRep.flt (h : PRep w pb n F N L ds) : ∀ k ∈ F, k < w.heap.size := by
  obtain ⟨s, m, Fn, Fs, es, clock, h, h1, rfl⟩ := h
  obtain ⟨a1, a2, a3, a4, a5⟩ := h.apart
  intro k hk
  simp at hk
  rcases hk with rfl | rfl | hk | hk | ⟨a, ⟨b, hx⟩, rfl⟩
  · exact a3
  · exact a4
  · exact h.net.flt k hk
  · exact h.slab.flt k hk
  · exact a5 _ hx
/-- the net's steps. -/
theorem PRep.net (h : PRep w pb n F N L ds) : ∃ Fn, NRep pc w n Fn N ∧ (∀ k ∈ Fn, k ∈ F) ∧ ∀ N' w', NDone pc w n Fn N' w' → ∃ F', PRep w' pb n F' N' L ds ∧ LaterF F w F' ∧ Keeps F w w' := by
  obtain ⟨s, m, Fn, Fs, es, clock, h, h1, rfl⟩ := h
  refine ⟨Fn, h.net, by simp +contextual, fun N' w' hd => ?_⟩
  obtain ⟨Fn', h2, h3, h4⟩ := h.netStep hd
  refine ⟨_, ⟨s, m, Fn', Fs, es, clock, h2, h1, rfl⟩, fun k hk => ?_, h4.mono (by simp +contextual)⟩
  simp only [List.mem_cons, List.mem_append] at hk ⊢
  rcases hk with hk | hk | hk | hk | hk
  · exact .inl (.inl hk)
  · exact .inl (.inr (.inl hk))
  · rcases h3 k hk with e | e
    · exact .inl (.inr (.inr (.inl e)))
    · exact .inr e
  · exact .inl (.inr (.inr (.inr (.inl hk))))
  · exact .inl (.inr (.inr (.inr (.inr hk))))
end
end Go.Proofs.Ytkeffebcmajhmaa
