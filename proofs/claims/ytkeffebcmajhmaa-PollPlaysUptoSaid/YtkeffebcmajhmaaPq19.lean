/- The reference's poller: its map, ints to what is watched. Look-ups and stores by law. -/
import Derived.Test.YtkeffebcmajhmaaPq16
import Derived.Test.YtkeffebcmajhmaaPq17
import Derived.Test.YtkeffebcmajhmaaPq18
import Derived.MapKept
namespace Go.Proofs.Ytkeffebcmajhmaa
open Go.RowKit
open Go.ChangeMaps (setBlock)
set_option linter.unusedVariables false
set_option linter.unusedSimpArgs false
structure IE where
  k : Int
  p : Nat
  b : Nat
def IE.me (e : IE) : MapEntry := { key := .int .i64 e.k, val := .pointer (some ⟨e.p, 0, none⟩), born := e.b }
def lookI (es : List IE) (s : Int) : Option Nat := (es.find? (fun e => e.k == s)).map (·.p)
/-- block m is a map that holds f. -/
def MapI (w : World) (m : Nat) (f : Int → Option Nat) : Prop := ∃ es clock, w.heap[m]? = some (.map (es.map IE.me).toArray clock) ∧ ∀ s, lookI es s = f s
def putF (f : Int → Option Nat) (s : Int) (p : Nat) : Int → Option Nat := fun t => if t = s then some p else f t
theorem run_findI (s : Int) : ∀ (es : List IE) (i : Nat), Instr.findNow (.int .i64) (.int .i64 s) (es.map IE.me) i = some ((es.findIdx? (fun e => e.k == s)).map fun j => (i + j, .pointer (some ⟨(es.getD j ⟨0, 0, 0⟩).p, 0, none⟩))) := by
  intro es
  induction es with
  | nil => intro i; simp [Instr.findNow]
  | cons e es ih =>
    intro i
    have hs : (s == e.k) = (e.k == s) := by rw [Bool.eq_iff_iff]; simp only [beq_iff_eq]; exact eq_comm
    simp only [List.map_cons, Instr.findNow, IE.me, Instr.sameNow, if_true, hs]
    rw [List.findIdx?_cons]
    cases h : (e.k == s) with
    | true => simp
    | false =>
      have := ih (i + 1)
      simp [this]
      cases es.findIdx? (fun e => e.k == s) with
      | none => simp
      | some j => simp; omega
theorem run_findKeyI (s : Int) (w : World) (es : List IE) : (Instr.findKey 3 (.int .i64 s) (es.map IE.me)).run Try.prog w = .ok ((es.findIdx? (fun e => e.k == s)).map fun j => (j, .pointer (some ⟨(es.getD j ⟨0, 0, 0⟩).p, 0, none⟩))) w := by
  have := run_findI s es 0
  simp only [Nat.zero_add] at this
  exact Go.MapKept.run_findKey Try.underlying3 this
theorem run_ckI (e : Bool) (a : Int) (w : World) : (Instr.checkKey e 10000 3 (.int .i64 a)).run Try.prog w = .ok () w := by
  kernel_rfl
theorem run_ktI (a : Int) (w : World) : (Instr.keyThatStays (.int .i64 a) (.int .i64 a)).run Try.prog w = .ok (.int .i64 a) w :=
  Go.MapKept.run_keyThatStays (d := .int .i64) rfl
theorem run_zvI (w : World) : (zeroValue 171).run Try.prog w = .ok (.pointer none) w := by kernel_rfl
theorem find_idx (es : List IE) (s : Int) : (es.findIdx? (fun e => e.k == s)).map (fun j => (es.getD j ⟨0, 0, 0⟩).p) = lookI es s := by
  induction es with
  | nil => rfl
  | cons e es ih =>
    unfold lookI at ih ⊢
    rw [List.findIdx?_cons, List.find?_cons]
    cases h : (e.k == s) with
    | true => simp
    | false =>
      simp only
      rw [← ih]
      cases es.findIdx? (fun e => e.k == s) with
      | none => simp
      | some j => simp
theorem look_modify (p : Nat) (s t : Int) : ∀ (es : List IE) (j : Nat), es.findIdx? (fun e => e.k == s) = some j → lookI (es.modify j fun e => { e with p := p }) t = if t = s then some p else lookI es t := by
  intro es
  induction es with
  | nil => intro j h; simp at h
  | cons e es ih =>
    intro j h
    rw [List.findIdx?_cons] at h
    unfold lookI at ih ⊢
    cases hs : (e.k == s) with
    | true =>
      rw [hs] at h
      simp at h
      subst h
      rw [beq_iff_eq] at hs
      rw [List.modify_zero_cons, List.find?_cons, List.find?_cons]
      by_cases ht : t = s
      · subst ht
        simp [hs]
      · have hne : (e.k == t) = false := by simp only [beq_eq_false_iff_ne]; omega
        simp only [hne, if_neg ht]
    | false =>
      rw [hs] at h
      simp only [Bool.false_eq_true, if_false] at h
      obtain ⟨i, hi, rfl⟩ := Option.map_eq_some_iff.1 h
      rw [List.modify_succ_cons, List.find?_cons, List.find?_cons]
      cases ht : (e.k == t) with
      | true =>
        have hne : ¬ t = s := by
          simp only [beq_iff_eq] at ht
          simp only [beq_eq_false_iff_ne] at hs
          omega
        simp [hne]
      | false => exact ih i hi
theorem look_snoc (p b : Nat) (s t : Int) (es : List IE) (h : es.findIdx? (fun e => e.k == s) = none) : lookI (es ++ [⟨s, p, b⟩]) t = if t = s then some p else lookI es t := by
  unfold lookI
  rw [List.find?_append]
  by_cases ht : t = s
  · subst ht
    have : es.find? (fun e => e.k == t) = none := by
      rw [List.find?_eq_none]
      intro e he
      have := List.findIdx?_eq_none_iff.1 h e he
      simpa using this
    rw [this]
    simp
  · rw [if_neg ht]
    have hne : (s == t) = false := by simp only [beq_eq_false_iff_ne]; omega
    cases es.find? (fun e => e.k == t) <;> simp [hne]
section
variable {w w' : World} {m : Nat} {f : Int → Option Nat}
theorem MapI.lt (h : MapI w m f) : m < w.heap.size := by
  obtain ⟨es, clock, h, -⟩ := h
  rcases Nat.lt_or_ge m w.heap.size with hlt | hge
  · exact hlt
  · rw [Array.getElem?_eq_none hge] at h; cases h
theorem MapI.keeps {F : List Nat} (h : MapI w m f) (hk : Keeps F w w') (hm : m ∉ F) : MapI w' m f := by
  have hl := h.lt
  obtain ⟨es, clock, h, h1⟩ := h
  exact ⟨es, clock, (hk.block m hl hm).trans h, h1⟩
theorem MapI.ne_blk (h : MapI w m f) {g : Nat} {t : TypeId} {cs : Array Value} (hg : Blk w g t cs) : m ≠ g := by
  rintro rfl
  obtain ⟨es, clock, h, -⟩ := h
  unfold Blk at hg
  rw [h] at hg
  cases hg
theorem run_lookI (h : MapI w m f) (s : Int) : (Instr.lookup 127 (.map (some m)) (.int .i64 s) false).run Try.prog w = .ok (.pointer ((f s).map fun p => ⟨p, 0, none⟩)) w := by
  obtain ⟨es, clock, h, h1⟩ := h
  have hfk := run_findKeyI s w es
  have hix := find_idx es s
  rw [h1 s] at hix
  unfold Instr.lookup
  simp only [Sem.run_bind, run_underlying Try.underlying127, Result.andThen_ok, getObj, Sem.run, h, run_ckI, Sem.run_pure, hfk]
  rw [← hix]
  cases es.findIdx? (fun e => e.k == s) with
  | none => simp [run_zvI, Result.andThen]
  | some j => simp
theorem run_storeI (h : MapI w m f) (s : Int) (p : Nat) :
    ∃ w', (Instr.mapUpdate 127 (.map (some m)) (.int .i64 s) (.pointer (some ⟨p, 0, none⟩))).run Try.prog w = .ok () w' ∧ MapI w' m (putF f s p) ∧ Keeps [m] w w' := by
  have hl := h.lt
  obtain ⟨es, clock, h, h1⟩ := h
  have hfk := run_findKeyI s w es
  have hset : ∀ o', (setObj m o').run Try.prog w = .ok () (setBlock w m o') := fun o' => by simp [setObj, Sem.run, h, setBlock]
  cases hj : es.findIdx? (fun e => e.k == s) with
  | none =>
    rw [hj] at hfk
    refine ⟨setBlock w m (.map ((es ++ [(⟨s, p, clock⟩ : IE)]).map IE.me).toArray (clock + 1)), ?_, ⟨_, _, get_setBlock _ hl, fun t => ?_⟩, keeps_setBlock _ hl⟩
    · unfold Instr.mapUpdate
      simp only [Sem.run_bind, run_underlying Try.underlying127, Result.andThen_ok, getObj, Sem.run, h, run_ckI, hfk, Option.map_none]
      rw [hset]
      simp [IE.me]
    · rw [look_snoc p clock s t es hj, h1 t]
      rfl
  | some j =>
    rw [hj] at hfk
    obtain ⟨hjl, hjs, -⟩ := List.findIdx?_eq_some_iff_getElem.1 hj
    rw [beq_iff_eq] at hjs
    refine ⟨setBlock w m (.map ((es.modify j fun e => { e with p := p }).map IE.me).toArray clock), ?_, ⟨_, _, get_setBlock _ hl, fun t => ?_⟩, keeps_setBlock _ hl⟩
    · unfold Instr.mapUpdate
      have hk : (((es.map IE.me).toArray[j]?).map (·.key)).getD (.int .i64 s) = .int .i64 s := by
        simp [List.getElem?_eq_getElem hjl, IE.me, hjs]
      simp only [Sem.run_bind, run_underlying Try.underlying127, Result.andThen_ok, getObj, Sem.run, h, run_ckI, hfk, Option.map_some, hk, run_ktI]
      rw [hset]
      have he : ((es.map IE.me).toArray.modify j fun e => { e with key := .int .i64 s, val := .pointer (some ⟨p, 0, none⟩) }) = ((es.modify j fun e => { e with p := p }).map IE.me).toArray := by
        apply Array.ext'
        simp only [Array.toList_modify]
        apply List.ext_getElem?
        intro i
        simp only [List.getElem?_modify, List.getElem?_map]
        by_cases hij : j = i
        · subst hij
          simp [List.getElem?_eq_getElem hjl, IE.me, hjs]
        · simp [hij]
      rw [he]
    · rw [look_modify p s t es j hj, h1 t]
      rfl
end
end Go.Proofs.Ytkeffebcmajhmaa
/- The poller in memory; New by contract. -/
namespace Go.Proofs.Ytkeffebcmajhmaa
open Go.RowKit
set_option linter.unusedVariables false
set_option linter.unusedSimpArgs false
abbrev PX := PE × Wd
/-- Block pb is a poller: its net, its slab, its map, what is watched. -/
structure PAt (w : World) (pb n s m : Nat) (Fn Fs : List Nat) (N : NS) (L : List Slot) (es : List PX) (clock : Nat) : Prop where
  blk : Blk w pb 93 (pcells n s m)
  net : NRep pc w n Fn N
  slab : SRep w s Fs 4096 L (es.length : Int)
  map : MapB w m (es.map (·.1)) clock
  at_ : ∀ x ∈ es, Blk w x.1.p 153 (wcells x.2)
  born : ∀ x ∈ es, x.1.b < clock
  bn : (es.map (·.1.b)).Nodup
  pn : (es.map (·.1.p)).Nodup
  kn : (es.map (·.1.s)).Nodup
  key : ∀ x ∈ es, ∃ k : Nat, x.1.s = (k : Int) ∧ L[k]? = some (x.1.g, true, x.2.id)
  all : ∀ (k : Nat) (g v : Int), L[k]? = some (g, true, v) → ∃ x ∈ es, x.1.s = (k : Int)
  d1 : ∀ k ∈ Fn, k ∉ Fs ∧ k ≠ pb ∧ k ≠ m ∧ ∀ x ∈ es, k ≠ x.1.p
  d2 : ∀ k ∈ Fs, k ≠ pb ∧ k ≠ m ∧ ∀ x ∈ es, k ≠ x.1.p
theorem MapB.ne_blk {w : World} {m clock : Nat} {es : List PE} (h : MapB w m es clock) {g : Nat} {t : TypeId} {cs : Array Value} (hg : Blk w g t cs) : m ≠ g := by
  rintro rfl
  unfold MapB at h
  unfold Blk at hg
  rw [h] at hg
  cases hg
section
variable {w w' : World} {pb n s m : Nat} {Fn Fs : List Nat} {N : NS} {L : List Slot} {es : List PX} {clock : Nat}
theorem PAt.keeps {K : List Nat} (h : PAt w pb n s m Fn Fs N L es clock) (hk : Keeps K w w') (hK : ∀ k ∈ K, k ≠ pb ∧ k ∉ Fn ∧ k ∉ Fs ∧ k ≠ m ∧ ∀ x ∈ es, k ≠ x.1.p) : PAt w' pb n s m Fn Fs N L es clock :=
  ⟨h.blk.keeps hk (fun hx => (hK _ hx).1 rfl), h.net.keeps hk (fun k hF hx => (hK k hx).2.1 hF), h.slab.keeps hk (fun k hF hx => (hK k hx).2.2.1 hF), h.map.keeps hk (fun hx => (hK _ hx).2.2.2.1 rfl),
    fun x hx => (h.at_ x hx).keeps hk (fun hc => (hK _ hc).2.2.2.2 x hx rfl), h.born, h.bn, h.pn, h.kn, h.key, h.all, h.d1, h.d2⟩
theorem PAt.next (h : PAt w pb n s m Fn Fs N L es clock) (hk : Keeps [] w w') : PAt w' pb n s m Fn Fs N L es clock := h.keeps hk (by simp)
/-- the poller's blocks lie apart of each other. -/
theorem PAt.apart (h : PAt w pb n s m Fn Fs N L es clock) : m ≠ pb ∧ (∀ x ∈ es, x.1.p ≠ pb ∧ x.1.p ≠ m) ∧ pb < w.heap.size ∧ m < w.heap.size ∧ (∀ x ∈ es, x.1.p < w.heap.size) :=
  ⟨h.map.ne_blk h.blk, fun x hx => ⟨(h.at_ x hx).ne_ h.blk (by decide), Ne.symm (h.map.ne_blk (h.at_ x hx))⟩, h.blk.lt, h.map.lt, fun x hx => (h.at_ x hx).lt⟩
/-- the net has gone on. -/
theorem PAt.netStep {N' : NS} (h : PAt w pb n s m Fn Fs N L es clock) (hd : NDone pc w n Fn N' w') : ∃ Fn', PAt w' pb n s m Fn' Fs N' L es clock ∧ LaterF Fn w Fn' ∧ Keeps Fn w w' := by
  obtain ⟨⟨F', h1, h2⟩, h3⟩ := hd
  obtain ⟨a1, a2, a3, a4, a5⟩ := h.apart
  refine ⟨F', ⟨h.blk.keeps h3 (fun hx => (h.d1 _ hx).2.1 rfl), h1, h.slab.keeps h3 (fun k hk hx => (h.d1 k hx).1 hk), h.map.keeps h3 (fun hx => (h.d1 _ hx).2.2.1 rfl), fun x hx => (h.at_ x hx).keeps h3 (fun hc => (h.d1 _ hc).2.2.2 x hx rfl), h.born, h.bn, h.pn, h.kn, h.key, h.all, fun k hk => ?_, h.d2⟩, h2, h3⟩
  rcases h2 k hk with e | e
  · exact h.d1 k e
  · refine ⟨fun hx => ?_, by omega, by omega, fun x hx => ?_⟩
    · have := h.slab.flt k hx
      omega
    · have := a5 x hx
      omega
/-- what is watched has changed in what is remembered of it. -/
theorem PAt.upd {K : List Nat} (h : PAt w pb n s m Fn Fs N L es clock) (f : PX → Wd) (hf : ∀ x ∈ es, (f x).id = x.2.id) (hk : Keeps K w w') (hK : ∀ k ∈ K, ∃ x ∈ es, k = x.1.p) (hb : ∀ x ∈ es, Blk w' x.1.p 153 (wcells (f x))) :
    PAt w' pb n s m Fn Fs N L (es.map fun x => (x.1, f x)) clock := by
  obtain ⟨a1, a2, a3, a4, a5⟩ := h.apart
  have e1 : (es.map fun x => (x.1, f x)).map (·.1) = es.map (·.1) := by simp [List.map_map, Function.comp_def]
  refine ⟨h.blk.keeps hk (fun hx => ?_), h.net.keeps hk (fun k hF hx => ?_), ?_, ?_, ?_, ?_, ?_, ?_, ?_, ?_, ?_, ?_, ?_⟩
  · obtain ⟨x, hx, he⟩ := hK _ hx
    exact (a2 x hx).1 he.symm
  · obtain ⟨x, hx, he⟩ := hK _ hx
    exact (h.d1 k hF).2.2.2 x hx he
  · rw [List.length_map]
    refine h.slab.keeps hk (fun k hF hx => ?_)
    obtain ⟨x, hx, he⟩ := hK _ hx
    exact (h.d2 k hF).2.2 x hx he
  · rw [e1]
    refine h.map.keeps hk (fun hx => ?_)
    obtain ⟨x, hx, he⟩ := hK _ hx
    exact (a2 x hx).2 he.symm
  · intro x hx
    obtain ⟨y, hy, rfl⟩ := List.mem_map.1 hx
    exact hb y hy
  · intro x hx
    obtain ⟨y, hy, rfl⟩ := List.mem_map.1 hx
    exact h.born y hy
  · simpa [List.map_map, Function.comp_def] using h.bn
  · simpa [List.map_map, Function.comp_def] using h.pn
  · simpa [List.map_map, Function.comp_def] using h.kn
  · intro x hx
    obtain ⟨y, hy, rfl⟩ := List.mem_map.1 hx
    obtain ⟨k, h1, h2⟩ := h.key y hy
    exact ⟨k, h1, by simpa [hf y hy] using h2⟩
  · intro k g v hL
    obtain ⟨x, hx, he⟩ := h.all k g v hL
    exact ⟨(x.1, f x), List.mem_map.2 ⟨x, hx, rfl⟩, he⟩
  · intro k hF
    obtain ⟨b1, b2, b3, b4⟩ := h.d1 k hF
    refine ⟨b1, b2, b3, fun x hx => ?_⟩
    obtain ⟨y, hy, rfl⟩ := List.mem_map.1 hx
    exact b4 y hy
  · intro k hF
    obtain ⟨b2, b3, b4⟩ := h.d2 k hF
    refine ⟨b2, b3, fun x hx => ?_⟩
    obtain ⟨y, hy, rfl⟩ := List.mem_map.1 hx
    exact b4 y hy
end
theorem pnew_nil (w : World) : Calls Try.prog 51 #[.pointer none] w fun e w' => e = .returned (.tuple #[.pointer none, .int .i64 1]) ∧ Keeps [] w w' := by
  go_enter Try.func51, Try.ntmps51
  go_wp2
  go_ret2
  exact ⟨rfl, Keeps.refl _ _⟩
def PNewPost (w : World) (n : Nat) (Fn : List Nat) (N : NS) (e : Ending) (w' : World) : Prop :=
  ∃ pb s m, e = .returned (.tuple #[.pointer (some ⟨pb, 0, none⟩), .int .i64 0]) ∧ PAt w' pb n s m Fn [s] N [] [] 0 ∧ w.heap.size ≤ pb ∧ w.heap.size ≤ s ∧ w.heap.size ≤ m ∧ Keeps [] w w'
theorem ponew_ok (n : Nat) (Fn : List Nat) (N : NS) (w : World) (h : NRep pc w n Fn N) : Calls Try.prog 51 #[.pointer (some ⟨n, 0, none⟩)] w (PNewPost w n Fn N) := by
  have H := hid h
  clear h
  have hmm := @run_makeMap Try.prog
  go_enter Try.func51, Try.ntmps51
  go_wp2_with fail
  refine (snew_ok 4096 _ (by omega) (by omega)).mono ?_
  rintro e w1 ⟨rfl, hs1, hk1⟩
  have HS1 := hid hs1
  have HK1 := hid hk1
  have hz1 := hk1.size
  have hsl := hs1.flt w.heap.size (by simp)
  clear hs1 hk1
  go_wp2_with fail
  go_ret2
  have hF := H.out.flt
  refine ⟨_, _, _, rfl, ⟨?_, H.out.keeps ((HK1.out.alloc _).alloc _) (fun _ _ => List.not_mem_nil), (HS1.out.keeps (((Keeps.refl [] w1).alloc _).alloc _) (fun _ _ => List.not_mem_nil)), ?_, by simp, by simp, List.nodup_nil, List.nodup_nil, List.nodup_nil, by simp, by simp, fun k hk => ?_, fun k hk => ?_⟩, by (try simp only [World.size_alloc]); omega, Nat.le_refl _, by simpa using hz1, (HK1.out.alloc _).alloc _⟩
  · exact Blk.newAt (by simp)
  · exact (Below.heap_alloc _ _ _ (by simp)).trans (heap_alloc_new w1 _)
  · have := hF k hk
    simp
    omega
  · simp at hk
    subst hk
    simp
    omega
/-- the poller, its own blocks and what it watches, in the order of the map. -/
def PRep (w : World) (pb n : Nat) (F : List Nat) (N : NS) (L : List Slot) (ds : List ((Int × Int) × Wd)) : Prop :=
  ∃ s m Fn Fs es clock, PAt w pb n s m Fn Fs N L es clock ∧ ds = es.map (fun x => ((x.1.s, x.1.g), x.2)) ∧ F = pb :: m :: (Fn ++ (Fs ++ es.map (·.1.p)))
section
variable {w w' : World} {pb n : Nat} {F : List Nat} {N : NS} {L : List Slot} {ds : List ((Int × Int) × Wd)}
theorem PRep.keeps {K : List Nat} (h : PRep w pb n F N L ds) (hk : Keeps K w w') (hK : ∀ k ∈ K, k ∉ F) : PRep w' pb n F N L ds := by
  obtain ⟨s, m, Fn, Fs, es, clock, h, h1, rfl⟩ := h
  refine ⟨s, m, Fn, Fs, es, clock, h.keeps hk (fun k hx => ?_), h1, rfl⟩
  have := hK k hx
  simp at this
  obtain ⟨b1, b2, b3, b4, b5⟩ := this
  exact ⟨b1, b3, b4, b2, fun x hx he => b5 x.1 x.2 hx he.symm⟩
theorem PRep.flt (h : PRep w pb n F N L ds) : ∀ k ∈ F, k < w.heap.size := by
  obtain ⟨s, m, Fn, Fs, es, clock, h, h1, rfl⟩ := h
  obtain ⟨a1, a2, a3, a4, a5⟩ := h.apart
  intro k hk
  simp at hk
  rcases hk with rfl | rfl | hk | hk | ⟨a, ⟨b, hx⟩, rfl⟩
  · exact a3
  · exact a4
  · exact h.net.flt k hk
  · exact h.slab.flt k hk
  · exact a5 _ hx
/-- the net's steps. -/
theorem PRep.net (h : PRep w pb n F N L ds) : ∃ Fn, NRep pc w n Fn N ∧ (∀ k ∈ Fn, k ∈ F) ∧ ∀ N' w', NDone pc w n Fn N' w' → ∃ F', PRep w' pb n F' N' L ds ∧ LaterF F w F' ∧ Keeps F w w' := by
  obtain ⟨s, m, Fn, Fs, es, clock, h, h1, rfl⟩ := h
  refine ⟨Fn, h.net, by simp +contextual, fun N' w' hd => ?_⟩
  obtain ⟨Fn', h2, h3, h4⟩ := h.netStep hd
  refine ⟨_, ⟨s, m, Fn', Fs, es, clock, h2, h1, rfl⟩, fun k hk => ?_, h4.mono (by simp +contextual)⟩
  simp only [List.mem_cons, List.mem_append] at hk ⊢
  rcases hk with hk | hk | hk | hk | hk
  · exact .inl (.inl hk)
  · exact .inl (.inr (.inl hk))
  · rcases h3 k hk with e | e
    · exact .inl (.inr (.inr (.inl e)))
    · exact .inr e
  · exact .inl (.inr (.inr (.inr (.inl hk))))
  · exact .inl (.inr (.inr (.inr (.inr hk))))
end
end Go.Proofs.Ytkeffebcmajhmaa
/- The poller: its functions at nil; laws of the map's operations. -/
namespace Go.Proofs.Ytkeffebcmajhmaa
open Go.RowKit
set_option linter.unusedVariables false
set_option linter.unusedSimpArgs false
theorem watch_nil (id : Int) (a b c : Bool) (w : World) : Calls Try.prog 50 #[.pointer none, .int .i64 id, .bool a, .bool b, .bool c] w fun e w' => e = .returned (.tuple #[.agg #[.int .i64 0, .int .i64 0], .int .i64 1]) ∧ Keeps [] w w' := by
  go_enter Try.func50, Try.ntmps50
  go_wp2_with fail
  exact bodyPost_ret (v := .tuple #[.agg #[.int .i64 0, .int .i64 0], .int .i64 1]) (by simp [results, Try.results50, go_sem]) rfl ⟨rfl, by (repeat (first | exact Keeps.refl _ _ | exact .inr (Nat.le_refl _) | apply Keeps.drewN | apply Keeps.alloc | apply Keeps.setCell))⟩
theorem change_nil (i g : Int) (a b : Bool) (w : World) : Calls Try.prog 52 #[.pointer none, .agg #[.int .i64 i, .int .i64 g], .bool a, .bool b] w fun e w' => e = .returned (.int .i64 1) ∧ Keeps [] w w' := by
  go_enter Try.func52, Try.ntmps52
  go_wp2_with fail
  go_ret
  exact ⟨rfl, (Keeps.refl [] w).alloc _⟩
theorem drop_nil (v : Value) (w : World) : Calls Try.prog 53 #[.pointer none, v] w fun e w' => e = .returned (.int .i64 0) ∧ Keeps [] w w' := by
  go_enter Try.func53, Try.ntmps53
  go_wp2_with fail
  go_ret
  exact ⟨rfl, Keeps.refl [] w⟩
theorem wait_nil (v : Value) (w : World) : Calls Try.prog 54 #[.pointer none, v] w fun e w' => e = .returned (.slice none 0 0) ∧ Keeps [] w w' := by
  go_enter Try.func54, Try.ntmps54
  go_wp2_with fail
  go_ret
  exact ⟨rfl, Keeps.refl [] w⟩
theorem watched_nil (w : World) : Calls Try.prog 55 #[.pointer none] w fun e w' => e = .returned (.int .i64 0) ∧ Keeps [] w w' := by
  go_enter Try.func55, Try.ntmps55
  go_wp2_with fail
  go_ret
  exact ⟨rfl, Keeps.refl [] w⟩
section
variable {ops : Array Oper} {rest : List Oper} {o : Oper} {a : Act} {Q : Exit → Act → World → Prop} {w : World} {m clock : Nat} {es : List PE}
theorem wpList_lookH (hg : o.guard = none) (mo ko : Operand) (hop : o.op = Op.lookup 91 mo ko false) (s g : Int) (hm : a.eval mo = .map (some m)) (hk : a.eval ko = .agg #[.int .i64 s, .int .i64 g]) (h : MapB w m es clock)
    (hK : wpList Try.prog ops Q rest (a.put o.dst (lookE es s g)) w) : wpList Try.prog ops Q (o :: rest) a w := by
  refine wpList_plain hg fun K' hK' => ?_
  unfold Oper.wp
  simp [execOp, hop, hm, hk, run_lookH h, Result.andThen]
  exact hK' _ _ hK
theorem wpList_rangeH (hg : o.guard = none) (mo : Operand) (hop : o.op = Op.range 91 mo) (hm : a.eval mo = .map (some m)) (h : MapB w m es clock)
    (hK : wpList Try.prog ops Q rest (a.put o.dst (.pointer (some ⟨w.heap.size, 0, none⟩))) (w.alloc (.mapIter (some m) clock #[] clock))) : wpList Try.prog ops Q (o :: rest) a w := by
  refine wpList_plain hg fun K' hK' => ?_
  unfold Oper.wp
  simp [execOp, hop, hm, run_rangeH h, Result.andThen]
  exact hK' _ _ hK
theorem wpList_storeH (hg : o.guard = none) (mo ko vo : Operand) (hop : o.op = Op.mapUpdate 91 mo ko vo) (s g : Int) (p : Nat) (hm : a.eval mo = .map (some m)) (hk : a.eval ko = .agg #[.int .i64 s, .int .i64 g]) (hv : a.eval vo = .pointer (some ⟨p, 0, none⟩)) (h : MapB w m es clock)
    (hn : es.findIdx? (PE.is s g) = none) (hK : ∀ w', MapB w' m (es ++ [⟨s, g, p, clock⟩]) (clock + 1) → Keeps [m] w w' → wpList Try.prog ops Q rest (a.put o.dst (.tuple #[])) w') : wpList Try.prog ops Q (o :: rest) a w := by
  refine wpList_plain hg fun K' hK' => ?_
  obtain ⟨w', h1, h2, h3⟩ := run_storeH h s g p hn
  unfold Oper.wp
  simp [execOp, hop, hm, hk, hv, h1, Result.andThen]
  exact hK' _ _ (hK w' h2 h3)
end
end Go.Proofs.Ytkeffebcmajhmaa
/- The poller: plain laws of its keys. -/
namespace Go.Proofs.Ytkeffebcmajhmaa
open Go.RowKit
set_option linter.unusedVariables false
set_option linter.unusedSimpArgs false
theorem PE.is_iff {s g : Int} {e : PE} : PE.is s g e = true ↔ e.s = s ∧ e.g = g := by simp [PE.is]
theorem lookE_in {es : List PX} (hn : (es.map (·.1.s)).Nodup) {x : PX} (hx : x ∈ es) : lookE (es.map (·.1)) x.1.s x.1.g = .pointer (some ⟨x.1.p, 0, none⟩) := by
  unfold lookE
  cases hj : (es.map (·.1)).findIdx? (PE.is x.1.s x.1.g) with
  | none =>
    have := List.findIdx?_eq_none_iff.1 hj x.1 (List.mem_map.2 ⟨x, hx, rfl⟩)
    rw [PE.is_iff.2 ⟨rfl, rfl⟩] at this
    cases this
  | some j =>
    obtain ⟨hl, h1, -⟩ := List.findIdx?_eq_some_iff_getElem.1 hj
    have h2 := PE.is_iff.1 h1
    obtain ⟨i, hi⟩ := List.getElem?_of_mem hx
    obtain ⟨hil, hi2⟩ := List.getElem?_eq_some_iff.1 hi
    have hjl : j < es.length := by simpa using hl
    have he : i = j := by
      have hs : (es.map (·.1.s))[i]? = (es.map (·.1.s))[j]? := by
        have h4 : es[j]? = some es[j] := List.getElem?_eq_getElem hjl
        simp only [List.getElem_map] at h2
        simp [List.getElem?_map, hi, h4, h2.1]
      exact (List.getElem?_inj (by simpa using hil) hn).1 hs
    subst he
    simp [List.getD, List.getElem?_map, hi]
theorem lookE_none {es : List PX} {s g : Int} (h : ∀ x ∈ es, ¬ (x.1.s = s ∧ x.1.g = g)) : lookE (es.map (·.1)) s g = .pointer none := by
  unfold lookE
  rw [List.findIdx?_eq_none_iff.2]
  intro e he
  obtain ⟨x, hx, rfl⟩ := List.mem_map.1 he
  cases hc : PE.is s g x.1 with
  | false => rfl
  | true => exact absurd (PE.is_iff.1 hc) (h x hx)
theorem find_none {es : List PX} {s g : Int} (h : ∀ x ∈ es, x.1.s ≠ s) : (es.map (·.1)).findIdx? (PE.is s g) = none := by
  rw [List.findIdx?_eq_none_iff]
  intro e he
  obtain ⟨x, hx, rfl⟩ := List.mem_map.1 he
  cases hc : PE.is s g x.1 with
  | false => rfl
  | true => exact absurd (PE.is_iff.1 hc).1 (h x hx)
/-- how many have not come yet. -/
def unseen (es : List PX) (seen : Array Nat) : Nat := (es.filter fun x => !seen.contains x.1.b).length
theorem unseen_lt {es : List PX} {seen : Array Nat} {x : PX} (hx : x ∈ es) (h : seen.contains x.1.b = false) : unseen es (seen.push x.1.b) < unseen es seen := by
  unfold unseen
  have h1 : (es.filter fun y => !(seen.push x.1.b).contains y.1.b) = (es.filter fun y => !seen.contains y.1.b).filter fun y => !(seen.push x.1.b).contains y.1.b := by
    rw [List.filter_filter]
    congr 1
    funext y
    cases hc : seen.contains y.1.b with
    | false => simp
    | true =>
      have : (seen.push x.1.b).contains y.1.b = true := by
        simp at hc ⊢
        exact .inl hc
      rw [this]
      rfl
  rw [h1, List.length_filter_lt_length_iff_exists]
  exact ⟨x, by simp [hx]; simpa using h, by simp⟩
/-- where Put puts: no entry has that slot; what the slots are then. -/
theorem put_keys {L : List Slot} {v : Int} : (∀ (k : Nat) (d : Slot), k ≠ freeAt L → L[k]? = some d → (putL L v)[k]? = some d) ∧ (putL L v)[freeAt L]? = some (putG L, true, v) ∧ (∀ (k : Nat) (d : Slot), k ≠ freeAt L → (putL L v)[k]? = some d → L[k]? = some d) ∧ (∀ d, L[freeAt L]? = some d → d.2.1 = false) := by
  have hle := freeAt_le L
  unfold putL putG
  cases hd : L[freeAt L]? with
  | none =>
    have hge : L.length ≤ freeAt L := by
      rw [List.getElem?_eq_none_iff] at hd
      exact hd
    have he : freeAt L = L.length := by omega
    rw [he]
    refine ⟨fun k d hk hL => ?_, by simp, fun k d hk hL => ?_, by simp⟩
    · have := (List.getElem?_eq_some_iff.1 hL).1
      simp only
      rw [List.getElem?_append_left this]
      exact hL
    · simp only at hL
      have := (List.getElem?_eq_some_iff.1 hL).1
      simp at this
      rw [List.getElem?_append_left (by omega)] at hL
      exact hL
  | some d =>
    have hl := (List.getElem?_eq_some_iff.1 hd).1
    refine ⟨fun k e hk hL => ?_, by simp [hl], fun k e hk hL => ?_, fun e he => ?_⟩
    · simp only
      rw [List.getElem?_set_ne (Ne.symm hk)]
      exact hL
    · simp only at hL
      rw [List.getElem?_set_ne (Ne.symm hk)] at hL
      exact hL
    · have := freeAt_free hd
      injection he with he
      rw [← he]
      exact this
theorem nodup_inj {α β : Type} {f : α → β} {l : List α} (hn : (l.map f).Nodup) {x z : α} (hx : x ∈ l) (hz : z ∈ l) (h : f x = f z) : x = z := by
  obtain ⟨i, hi⟩ := List.getElem?_of_mem hx
  obtain ⟨j, hj⟩ := List.getElem?_of_mem hz
  have hil := (List.getElem?_eq_some_iff.1 hi).1
  have he : i = j := (List.getElem?_inj (l := l.map f) (by simpa using hil) hn).1 (by simp [List.getElem?_map, hi, hj, h])
  subst he
  rw [hi] at hj
  injection hj
end Go.Proofs.Ytkeffebcmajhmaa
/- The poller: one more that is watched. -/
namespace Go.Proofs.Ytkeffebcmajhmaa
open Go.RowKit
set_option linter.unusedVariables false
set_option linter.unusedSimpArgs false
section
variable {w w3 w5 w6 : World} {pb n s m p : Nat} {Fn Fs Fs' : List Nat} {N : NS} {L : List Slot} {es : List PX} {clock : Nat} {d : Wd}
theorem PAt.fresh (h : PAt w pb n s m Fn Fs N L es clock) : ∀ x ∈ es, x.1.s ≠ ((freeAt L : Nat) : Int) := by
  intro x hx he
  obtain ⟨k, h1, h2⟩ := h.key x hx
  have hk : k = freeAt L := by omega
  subst hk
  have := (put_keys (L := L) (v := 0)).2.2.2 _ h2
  simp at this
theorem PAt.add (h : PAt w pb n s m Fn Fs N L es clock) (hs3 : SRep w3 s Fs' 4096 (putL L d.id) (es.length + 1)) (hla : Later Fs w Fs') (hk3 : Keeps Fs w w3) (hk5 : Keeps [] w3 w5) (hp : w3.heap.size ≤ p) (hb : Blk w5 p 153 (wcells d))
    (hm : MapB w6 m (es.map (·.1) ++ [(⟨(freeAt L : Nat), putG L, p, clock⟩ : PE)]) (clock + 1)) (hk6 : Keeps [m] w5 w6) :
    PAt w6 pb n s m Fn Fs' N (putL L d.id) (es ++ [((⟨(freeAt L : Nat), putG L, p, clock⟩ : PE), d)]) (clock + 1) := by
  obtain ⟨a1, a2, a3, a4, a5⟩ := h.apart
  have hz3 := hk3.size
  have hk5' : Keeps Fs w w5 := hk3.trans hk5 (by simp)
  have hall : Keeps (m :: Fs) w w6 := (hk5'.mono (by simp +contextual)).trans hk6 (by simp)
  have hk36 : Keeps [m] w3 w6 := (hk5.mono (by simp)).trans hk6 (by simp)
  obtain ⟨q1, q2, q3, q4⟩ := put_keys (L := L) (v := d.id)
  have hms : m ∉ Fs := fun hx => (h.d2 _ hx).2.1 rfl
  refine ⟨h.blk.keeps hall (fun hx => ?_), h.net.keeps hall (fun k hF hx => ?_), ?_, ?_, fun x hx => ?_, fun x hx => ?_, ?_, ?_, ?_, fun x hx => ?_, fun k g v hL => ?_, fun k hF => ?_, fun k hF => ?_⟩
  · simp at hx
    rcases hx with hx | hx
    · exact a1 hx.symm
    · exact (h.d2 _ hx).1 rfl
  · simp at hx
    rcases hx with hx | hx
    · exact (h.d1 k hF).2.2.1 hx
    · exact (h.d1 k hF).1 hx
  · have := hs3.keeps hk36 (fun k hk hx => ?_)
    · simpa using this
    · simp at hx
      subst hx
      rcases hla k hk with e | e
      · exact hms e
      · omega
  · simpa using hm
  · simp only [List.mem_append, List.mem_singleton] at hx
    rcases hx with hx | rfl
    · refine (h.at_ x hx).keeps hall (fun hc => ?_)
      simp at hc
      rcases hc with hc | hc
      · exact (a2 x hx).2 hc
      · exact (h.d2 _ hc).2.2 x hx rfl
    · refine hb.keeps hk6 (fun hc => ?_)
      simp at hc
      omega
  · simp only [List.mem_append, List.mem_singleton] at hx
    rcases hx with hx | rfl
    · have := h.born x hx
      omega
    · simp
  · rw [List.map_append, List.nodup_append]
    refine ⟨h.bn, by simp, fun a ha b hb2 he => ?_⟩
    obtain ⟨x, hx, rfl⟩ := List.mem_map.1 ha
    simp at hb2
    have := h.born x hx
    omega
  · rw [List.map_append, List.nodup_append]
    refine ⟨h.pn, by simp, fun a ha b hb2 he => ?_⟩
    obtain ⟨x, hx, rfl⟩ := List.mem_map.1 ha
    simp at hb2
    have := a5 x hx
    omega
  · rw [List.map_append, List.nodup_append]
    refine ⟨h.kn, by simp, fun a ha b hb2 he => ?_⟩
    obtain ⟨x, hx, rfl⟩ := List.mem_map.1 ha
    simp at hb2
    exact h.fresh x hx (he.trans hb2)
  · simp only [List.mem_append, List.mem_singleton] at hx
    rcases hx with hx | rfl
    · obtain ⟨k, h1, h2⟩ := h.key x hx
      exact ⟨k, h1, q1 k _ (fun e => h.fresh x hx (by omega)) h2⟩
    · exact ⟨freeAt L, rfl, q2⟩
  · by_cases hk : k = freeAt L
    · exact ⟨_, List.mem_append_right _ (List.mem_singleton.2 rfl), by simp [hk]⟩
    · obtain ⟨x, hx, he⟩ := h.all k g v (q3 k _ hk hL)
      exact ⟨x, List.mem_append_left _ hx, he⟩
  · obtain ⟨b1, b2, b3, b4⟩ := h.d1 k hF
    have hkw := h.net.flt k hF
    refine ⟨fun hx => ?_, b2, b3, fun x hx => ?_⟩
    · rcases hla k hx with e | e
      · exact b1 e
      · omega
    · simp only [List.mem_append, List.mem_singleton] at hx
      rcases hx with hx | rfl
      · exact b4 x hx
      · simp
        omega
  · have hkw := hs3.flt k hF
    rcases hla k hF with e | e
    · obtain ⟨b1, b2, b3⟩ := h.d2 k e
      refine ⟨b1, b2, fun x hx => ?_⟩
      simp only [List.mem_append, List.mem_singleton] at hx
      rcases hx with hx | rfl
      · exact b3 x hx
      · simp
        omega
    · refine ⟨by omega, by omega, fun x hx => ?_⟩
      simp only [List.mem_append, List.mem_singleton] at hx
      rcases hx with hx | rfl
      · have := a5 x hx
        omega
      · simp
        omega
end
end Go.Proofs.Ytkeffebcmajhmaa
