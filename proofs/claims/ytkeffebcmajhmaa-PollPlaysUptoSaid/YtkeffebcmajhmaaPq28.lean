/- The poller: Drop by contract. -/
import Derived.Test.YtkeffebcmajhmaaPq27
import Derived.Deep.RegionLaw
import Derived.Test.YtkeffebcmajhmaaPq19
import Derived.Test.YtkeffebcmajhmaaPq20
namespace Go.Proofs.Ytkeffebcmajhmaa
open Go.RowKit
open Go.ChangeMaps (setBlock)
set_option linter.unusedVariables false
set_option linter.unusedSimpArgs false
structure Keyed (L : List Slot) (es : List PX) : Prop where
  kn : (es.map (·.1.s)).Nodup
  key : ∀ x ∈ es, ∃ k : Nat, x.1.s = (k : Int) ∧ L[k]? = some (x.1.g, true, x.2.id)
  all : ∀ (k : Nat) (g v : Int), L[k]? = some (g, true, v) → ∃ x ∈ es, x.1.s = (k : Int)
theorem HsIn.mono {w : World} {F G : List Nat} {v : Value} {hs : List (Int × Int)} (h : HsIn w F v hs) (hG : ∀ x ∈ G, x ∈ F) : HsIn w G v hs := by
  obtain ⟨A, c, hv, h1, h2, h3⟩ := h
  refine ⟨A, c, hv, h1, h2, fun hp => ?_⟩
  obtain ⟨b, o, hA, hb, hc⟩ := h3 hp
  exact ⟨b, o, hA, fun hx => hb (hG b hx), hc⟩
theorem live_of {L : List Slot} {k : Nat} {g v : Int} (h : L[k]? = some (g, true, v)) : live L k g = some (k, v) := by
  unfold live
  rw [if_pos (by omega), Int.toNat_natCast, h]
  simp
/-- all but one key. -/
abbrev butX (es : List PX) (a : Int × Int) : List PX := es.filter fun x => !decide (keyX x = a)
abbrev outX (es : List PX) (hs : List (Int × Int)) : List PX := es.filter fun x => !decide (keyX x ∈ hs)
theorem butX_none {es : List PX} {a : Int × Int} (h : ∀ x ∈ es, keyX x ≠ a) : butX es a = es := by
  rw [List.filter_eq_self]
  intro x hx
  simpa using h x hx
theorem butX_one {es : List PX} (hn : (es.map (·.1.s)).Nodup) {x : PX} (hx : x ∈ es) : (butX es (keyX x)).length + 1 = es.length := by
  obtain ⟨l1, l2, rfl⟩ := List.append_of_mem hx
  rw [List.map_append, List.map_cons, List.nodup_append, List.nodup_cons] at hn
  obtain ⟨n1, ⟨n2, n3⟩, n4⟩ := hn
  have h1 : butX l1 (keyX x) = l1 := butX_none (fun y hy he => by
    have h5 := n4 y.1.s (List.mem_map.2 ⟨y, hy, rfl⟩) x.1.s (by simp)
    injection he with he1 he2
    exact h5 he1)
  have h2 : butX l2 (keyX x) = l2 := butX_none (fun y hy he => by
    injection he with he1 he2
    exact n2 (List.mem_map.2 ⟨y, hy, he1⟩))
  unfold butX at h1 h2 ⊢
  rw [List.filter_append, List.filter_cons, h1, h2]
  simp
  omega
theorem Keyed.step {L : List Slot} {es : List PX} (h : Keyed L es) (m : Nat) (a : Int × Int) :
    Keyed (take1 (L, m) a).1 (butX es a) ∧ (take1 (L, m) a).2 + (butX es a).length = m + es.length := by
  unfold take1
  cases hl : live (L, m).1 a.1 a.2 with
  | none =>
    have hno : butX es a = es := butX_none (fun x hx he => by
      obtain ⟨k, h1, h2⟩ := h.key x hx
      have h3 := live_of h2
      rw [← h1] at h3
      rw [← he] at hl
      simp only at hl
      rw [h3] at hl
      cases hl)
    rw [hno]
    exact ⟨h, rfl⟩
  | some kv =>
    obtain ⟨k, v⟩ := kv
    obtain ⟨h1, h2⟩ := live_some hl
    simp only at h1 h2
    obtain ⟨x, hx, hxs⟩ := h.all k a.2 v h2
    have hkey : ∀ y ∈ es, y.1.s = (k : Int) → keyX y = a := fun y hy hs => by
      obtain ⟨q, g1, g2⟩ := h.key y hy
      have hq : q = k := by omega
      subst hq
      rw [h2] at g2
      injection g2 with g2
      injection g2 with g2 _
      exact Prod.ext (by simp only; omega) (by simp only; omega)
    have hxa := hkey x hx hxs
    refine ⟨⟨?_, fun y hy => ?_, fun q g u hq => ?_⟩, ?_⟩
    · exact (List.Nodup.sublist (List.Sublist.map _ List.filter_sublist) h.kn)
    · rw [List.mem_filter] at hy
      obtain ⟨hy, hya⟩ := hy
      simp only [Bool.not_eq_true', decide_eq_false_iff_not] at hya
      obtain ⟨q, g1, g2⟩ := h.key y hy
      refine ⟨q, g1, ?_⟩
      simp only
      rw [List.getElem?_set_ne (fun e => hya (hkey y hy (by omega)))]
      exact g2
    · simp only at hq
      have hqk : k ≠ q := by
        rintro rfl
        have hlt := (List.getElem?_eq_some_iff.1 h2).1
        rw [List.getElem?_set_self hlt] at hq
        injection hq with hq
        injection hq with _ hq
        injection hq with hq _
        cases hq
      rw [List.getElem?_set_ne hqk] at hq
      obtain ⟨y, hy, hys⟩ := h.all q g u hq
      refine ⟨y, List.mem_filter.2 ⟨hy, ?_⟩, hys⟩
      simp only [Bool.not_eq_true', decide_eq_false_iff_not]
      intro he
      have := congrArg Prod.fst he
      simp only at this
      omega
    · have := butX_one h.kn hx
      rw [hxa] at this
      simp only
      omega
theorem outX_cons (es : List PX) (a : Int × Int) (hs : List (Int × Int)) : outX (butX es a) hs = outX es (a :: hs) := by
  unfold outX butX
  rw [List.filter_filter]
  congr 1
  funext x
  by_cases h1 : keyX x = a <;> by_cases h2 : keyX x ∈ hs <;> simp [h1, h2]
theorem outX_snoc (es : List PX) (a : Int × Int) (hs : List (Int × Int)) : butX (outX es hs) a = outX es (hs ++ [a]) := by
  unfold outX butX
  rw [List.filter_filter]
  congr 1
  funext x
  by_cases h1 : keyX x = a <;> by_cases h2 : keyX x ∈ hs <;> simp [h1, h2]
theorem outX_nil (es : List PX) : outX es [] = es := by simp [outX]
theorem Keyed.out : ∀ (hs : List (Int × Int)) (L : List Slot) (es : List PX) (m : Nat), Keyed L es → Keyed (hs.foldl take1 (L, m)).1 (outX es hs) ∧ (hs.foldl take1 (L, m)).2 + (outX es hs).length = m + es.length
  | [], L, es, m, h => by rw [outX_nil]; exact ⟨h, rfl⟩
  | a :: hs, L, es, m, h => by
    obtain ⟨h1, h2⟩ := h.step m a
    obtain ⟨h3, h4⟩ := Keyed.out hs _ _ (take1 (L, m) a).2 h1
    rw [outX_cons] at h3 h4
    rw [List.foldl_cons]
    exact ⟨h3, by have h5 : ((take1 (L, m) a).1, (take1 (L, m) a).2) = take1 (L, m) a := rfl
                  rw [h5] at h4
                  omega⟩
theorem delE_but : ∀ (es : List PX) (s g : Int), (es.map (·.1.s)).Nodup → delE (es.map (·.1)) s g = (butX es (s, g)).map (·.1)
  | [], s, g, _ => rfl
  | x :: es, s, g, hn => by
    rw [List.map_cons, List.nodup_cons] at hn
    have ih := delE_but es s g hn.2
    unfold delE at ih ⊢
    rw [List.map_cons, List.findIdx?_cons]
    unfold butX at ih ⊢
    rw [List.filter_cons]
    cases hh : PE.is s g x.1 with
    | true =>
      have hk := PE.is_iff.1 hh
      have hx : keyX x = (s, g) := Prod.ext hk.1 hk.2
      have hno : butX es (s, g) = es := butX_none (fun y hy he => by
        have := congrArg Prod.fst he
        exact hn.1 (List.mem_map.2 ⟨y, hy, this.trans hk.1.symm⟩))
      unfold butX at hno
      rw [if_neg (show ¬ ((!decide (keyX x = (s, g))) = true) by rw [hx]; simp), hno]
      simp
    | false =>
      have hx : ¬ keyX x = (s, g) := fun he => by
        have h1 := congrArg Prod.fst he
        have h2 := congrArg Prod.snd he
        rw [PE.is_iff.2 ⟨h1, h2⟩] at hh
        cases hh
      rw [if_pos (show (!decide (keyX x = (s, g))) = true by rw [decide_eq_false hx]; rfl), List.map_cons, ← ih]
      cases hj : (es.map (·.1)).findIdx? (PE.is s g) with
      | none => simp
      | some j => simp
def outW (ds : WL) (hs : List (Int × Int)) : WL := ds.filter fun x => !decide (x.1 ∈ hs)
theorem outW_map (es : List PX) (hs : List (Int × Int)) : outW (dsX es) hs = dsX (outX es hs) := by
  unfold outW dsX outX
  rw [List.filter_map]
  rfl
theorem PAt.keyed_ {w : World} {pb n s m : Nat} {Fn Fs : List Nat} {N : NS} {L : List Slot} {es : List PX} {clock : Nat} (h : PAt w pb n s m Fn Fs N L es clock) : Keyed L es := ⟨h.kn, h.key, h.all⟩
theorem PAt.drop {w w1 w2 : World} {pb n s m : Nat} {Fn Fs : List Nat} {N : NS} {L : List Slot} {es : List PX} {clock : Nat} (h : PAt w pb n s m Fn Fs N L es clock) (hs : List (Int × Int))
    (hm : MapB w1 m ((outX es hs).map (·.1)) clock) (k1 : Keeps [m] w w1) (hs2 : SRep w2 s Fs 4096 (takeAll L hs).1 ((es.length : Int) - (takeAll L hs).2)) (k2 : Keeps Fs w1 w2) : PAt w2 pb n s m Fn Fs N (takeAll L hs).1 (outX es hs) clock := by
  obtain ⟨a1, a2, a3, a4, a5⟩ := h.apart
  obtain ⟨g1, g2⟩ := Keyed.out hs L es 0 h.keyed_
  have hall : Keeps (m :: Fs) w w2 := (k1.mono (by simp)).trans k2 (by simp +contextual)
  have hms : m ∉ Fs := fun hx => (h.d2 _ hx).2.1 rfl
  have hsub : ∀ x ∈ outX es hs, x ∈ es := fun x hx => (List.mem_filter.1 hx).1
  have hsl : (outX es hs).Sublist es := List.filter_sublist
  refine ⟨h.blk.keeps hall (fun hx => ?_), h.net.keeps hall (fun k hF hx => ?_), ?_, hm.keeps k2 hms, fun x hx => ?_, fun x hx => h.born x (hsub x hx), h.bn.sublist (hsl.map _), h.pn.sublist (hsl.map _), g1.kn, g1.key, g1.all, fun k hF => ?_, fun k hF => ?_⟩
  · simp at hx
    rcases hx with hx | hx
    · exact a1 hx.symm
    · exact (h.d2 _ hx).1 rfl
  · simp at hx
    rcases hx with hx | hx
    · exact (h.d1 k hF).2.2.1 hx
    · exact (h.d1 k hF).1 hx
  · have : ((outX es hs).length : Int) = (es.length : Int) - (takeAll L hs).2 := by
      unfold takeAll
      omega
    rw [this]
    exact hs2
  · refine (h.at_ x (hsub x hx)).keeps hall (fun hc => ?_)
    simp at hc
    rcases hc with hc | hc
    · exact (a2 x (hsub x hx)).2 hc
    · exact (h.d2 _ hc).2.2 x (hsub x hx) rfl
  · obtain ⟨b1, b2, b3, b4⟩ := h.d1 k hF
    exact ⟨b1, b2, b3, fun x hx => b4 x (hsub x hx)⟩
  · obtain ⟨b1, b2, b3⟩ := h.d2 k hF
    exact ⟨b1, b2, fun x hx => b3 x (hsub x hx)⟩
def DropPost (w : World) (pb n : Nat) (F : List Nat) (N : NS) (L : List Slot) (ds : WL) (hs : List (Int × Int)) (e : Ending) (w' : World) : Prop :=
  e = .returned (.int .i64 (takeAll L hs).2) ∧ (∃ F', PRep w' pb n F' N (takeAll L hs).1 (outW ds hs) ∧ ∀ k ∈ F', k ∈ F) ∧ Keeps F w w'
set_option maxRecDepth 100000 in
set_option maxHeartbeats 4000000 in
theorem drop_any (pb n : Nat) (F : List Nat) (N : NS) (L : List Slot) (ds : WL) (pv : Value) (hs : List (Int × Int)) (w : World) (h : PRep w pb n F N L ds) (hp : HsIn w F pv hs) (hhs : hs.length ≤ 1099511627776) (hdl : ds.length ≤ 1099511627776) :
    Calls Try.prog 53 #[.pointer (some ⟨pb, 0, none⟩), pv] w (DropPost w pb n F N L ds hs) := by
  obtain ⟨s, m, Fn, Fs, es, clock, h, hds, rfl⟩ := h
  have H := hid h
  have p1 := h.blk.cell 1
  have p2 := h.blk.cell 2
  simp [pcells] at p1 p2
  have HDS := hid hds
  have HPV := hid hp
  have hel : es.length ≤ 1099511627776 := by rw [hds] at hdl; simpa using hdl
  obtain ⟨POST, hPOST⟩ : ∃ P, DropPost w pb n (pb :: m :: (Fn ++ (Fs ++ es.map (·.1.p)))) N L ds hs = P := ⟨_, rfl⟩
  rw [hPOST]
  have HP := hid hPOST
  obtain ⟨PA, pcap, rfl, hp1, hp2⟩ := hp.shape
  have hmF : m ∈ pb :: m :: (Fn ++ (Fs ++ es.map (·.1.p))) := by simp
  have hmp : pb ≠ m := Ne.symm H.out.apart.1
  clear hPOST h hds hp
  go_enter Try.func53, Try.ntmps53
  go_wp2_with fail
  go_loopw [6, 11] (fun _ i wr => ∃ k : Nat, k ≤ hs.length ∧ i = .int .i64 k ∧ MapB wr m ((outX es (hs.take k)).map (·.1)) clock ∧ Keeps [m] w wr) (fun _ i _ => hs.length - (intOf i).toNat)
  case atStart => exact ⟨0, Nat.zero_le _, rfl, by rw [List.take_zero, outX_nil]; exact H.out.map, Keeps.refl _ _⟩
  case round =>
    obtain ⟨k, hk, rfl, hm, hkp⟩ := hrel
    have HM := hid hm
    have HKP := hid hkp
    clear hm hkp
    have e1 := cell_keep HKP.out (by simpa using hmp) p1
    have e2 := cell_keep HKP.out (by simpa using hmp) p2
    by_cases hlt : k < hs.length
    · obtain ⟨a, ha⟩ : ∃ a, hs[k]? = some a := ⟨hs[k], List.getElem?_eq_getElem hlt⟩
      obtain ⟨b, o, rfl, hb, hc⟩ := HPV.out.at_ (by omega)
      obtain ⟨d0, d1⟩ := hc k a ha
      obtain ⟨s1, g1⟩ := a
      simp only at d0 d1
      have hbm : b ∉ [m] := fun hx => by simp at hx; subst hx; exact hb hmF
      have c0 := cell_keep HKP.out hbm d0
      have c1 := cell_keep HKP.out hbm d1
      have hki : (k : Int) < hs.length := by omega
      have HA := hid ha
      have HHB := hid (Blk.new wr 30 #[.int .i64 s1, .int .i64 g1])
      clear hc d0 d1 hb ha
      go_wp2_with fail
      obtain ⟨w4, hw4⟩ : ∃ x, wr.alloc (.cells #[.int .i64 s1, .int .i64 g1] 30) = x := ⟨_, rfl⟩
      have hk4 : Keeps [] wr w4 := by rw [← hw4]; exact (Keeps.refl [] wr).alloc _
      rw [hw4] at HHB ⊢
      have q2 := cell_keep hk4 (by simp) e2
      have q0 := HHB.out.cell 0
      have q1 := HHB.out.cell 1
      simp at q0 q1
      clear hw4
      obtain ⟨S, hSe⟩ : ∃ S : World → Prop, ∀ w', S w' ↔ (w'.cell? ⟨pb, 2, none⟩ = some (.map (some m)) ∧ w'.cell? ⟨wr.heap.size, 0, none⟩ = some (.int .i64 s1) ∧ w'.cell? ⟨wr.heap.size, 1, none⟩ = some (.int .i64 g1)) := ⟨_, fun _ => Iff.rfl⟩
      have hSw1 : S w4.drew := (hSe _).2 ⟨q2, q0, q1⟩
      refine wp_region_held_drew (S := S) (by kernel_rfl) hSw1 (fun hHeld => ?_)
      refine wpAnyH_take (i := 0) (v := ?_) rfl (by kernel_rfl) (by kernel_rfl) (by kernel_rfl) (fun _ _ _ h => h) ?_ (by assumption) ?_
      rotate_left 1
      · first | (apply Or.inl; constructor; rfl; intro W hSw; obtain ⟨s1', s2', s3'⟩ := (hSe W).1 hSw; go_simp; try (with_reducible rfl)) | (apply Or.inr; constructor; rfl; rfl)
      try simp only [Act.put, List.getElem_toArray, List.getElem_cons_succ, List.getElem_cons_zero, List.setIfInBounds_toArray, List.set_cons_zero, List.set_cons_succ]
      refine wpAnyH_take (i := 1) (v := ?_) rfl (by kernel_rfl) (by kernel_rfl) (by kernel_rfl) (fun _ _ _ h => h) ?_ (by assumption) ?_
      rotate_left 1
      · first | (apply Or.inl; constructor; rfl; intro W hSw; obtain ⟨s1', s2', s3'⟩ := (hSe W).1 hSw; go_simp; try (with_reducible rfl)) | (apply Or.inr; constructor; rfl; rfl)
      try simp only [Act.put, List.getElem_toArray, List.getElem_cons_succ, List.getElem_cons_zero, List.setIfInBounds_toArray, List.set_cons_zero, List.set_cons_succ]
      refine wpAnyH_take (i := 2) (v := ?_) rfl (by kernel_rfl) (by kernel_rfl) (by kernel_rfl) (fun _ _ _ h => h) ?_ (by assumption) ?_
      rotate_left 1
      · first | (apply Or.inl; constructor; rfl; intro W hSw; obtain ⟨s1', s2', s3'⟩ := (hSe W).1 hSw; go_simp; try (with_reducible rfl)) | (apply Or.inr; constructor; rfl; rfl)
      try simp only [Act.put, List.getElem_toArray, List.getElem_cons_succ, List.getElem_cons_zero, List.setIfInBounds_toArray, List.set_cons_zero, List.set_cons_succ]
      refine wpAnyH_take (i := 3) (v := ?_) rfl (by kernel_rfl) (by kernel_rfl) (by kernel_rfl) (fun _ _ _ h => h) ?_ (by assumption) ?_
      rotate_left 1
      · first | (apply Or.inl; constructor; rfl; intro W hSw; obtain ⟨s1', s2', s3'⟩ := (hSe W).1 hSw; go_simp; try (with_reducible rfl)) | (apply Or.inr; constructor; rfl; rfl)
      try simp only [Act.put, List.getElem_toArray, List.getElem_cons_succ, List.getElem_cons_zero, List.setIfInBounds_toArray, List.set_cons_zero, List.set_cons_succ]
      refine wpAnyH_take (i := 4) (v := ?_) rfl (by kernel_rfl) (by kernel_rfl) (by kernel_rfl) (fun _ _ _ h => h) ?_ (by assumption) ?_
      rotate_left 1
      · first | (apply Or.inl; constructor; rfl; intro W hSw; obtain ⟨s1', s2', s3'⟩ := (hSe W).1 hSw; go_simp; try (with_reducible rfl)) | (apply Or.inr; constructor; rfl; rfl)
      try simp only [Act.put, List.getElem_toArray, List.getElem_cons_succ, List.getElem_cons_zero, List.setIfInBounds_toArray, List.set_cons_zero, List.set_cons_succ]
      refine wpAnyH_ready (rs := [5]) (by kernel_rfl) (by simp) ?_
      refine AllReadyH.cons rfl (fun K hK => ?_) AllReadyH.nil
      have hmw := HM.out.lt
      obtain ⟨w6, hrun, hm6, hk6⟩ := run_delH (w := w4.drew) (HM.out.keeps hk4.drew (by simp)) s1 g1 0
      go_simp
      refine hK.out _ _ ((hSe _).2 ⟨cell_keep hk6 (by simpa using hmp) q2, cell_keep hk6 (by simp; omega) q0, cell_keep hk6 (by simp; omega) q1⟩) (fun hHeld => ?_)
      clear hK K
      refine wpAnyH_done (by kernel_rfl) ?_ _
      have HM6 := hid hm6
      have HK6 := hid hk6
      have HK4 := hid hk4
      clear hm6 hk6 hk4 hrun
      go_wp2_with fail
      go_roundw
      case rel =>
        refine ⟨k + 1, by omega, by go_num, ?_, (HKP.out.trans HK4.out (by simp)).drew.trans HK6.out (by simp)⟩
        have h1 := HM6.out
        rw [delE_but _ _ _ (List.Nodup.sublist (List.Sublist.map _ List.filter_sublist) H.out.kn), outX_snoc] at h1
        rw [List.take_add_one, HA.out]
        exact h1
      case measure => simp [intOf] <;> omega
    · have hkl : k = hs.length := by omega
      subst hkl
      rw [List.take_length] at HM
      go_wp2_with fail
      refine (stake_any s Fs 4096 es.length L _ hs wr (H.out.slab.keeps HKP.out (fun j hj hx => by simp at hx; subst hx; exact (H.out.d2 _ hj).2.1 rfl)) ?_ hhs (by omega) (by omega)).mono ?_
      · exact (HPV.out.keeps HKP.out (fun j hj => .inl (by simp at hj; subst hj; exact hmF))).mono (fun j hj => by simp [hj])
      rintro e w2 ⟨rfl, hs2, hk2⟩
      have HS2 := hid hs2
      have HK2 := hid hk2
      clear hs2 hk2
      go_wp2_with fail
      refine (?_ : POST (.returned (.int .i64 ((takeAll L hs).2 : Nat))) w2)
      rw [← HP.out]
      have hat := H.out.drop hs HM.out HKP.out HS2.out HK2.out
      refine ⟨rfl, ⟨_, ⟨s, m, Fn, Fs, outX es hs, clock, hat, by rw [HDS.out]; exact outW_map es hs, rfl⟩, fun j hj => ?_⟩, ?_⟩
      · simp only [List.mem_cons, List.mem_append, List.mem_map] at hj ⊢
        rcases hj with e | e | e | e | ⟨x, hx, rfl⟩
        · exact .inl e
        · exact .inr (.inl e)
        · exact .inr (.inr (.inl e))
        · exact .inr (.inr (.inr (.inl e)))
        · exact .inr (.inr (.inr (.inr ⟨x, (List.mem_filter.1 hx).1, rfl⟩)))
      · exact (HKP.out.mono (by simp)).trans (HK2.out.mono (by simp +contextual)) (fun g hg => .inl hg)
end Go.Proofs.Ytkeffebcmajhmaa
/- The reference's poller in memory; New and Drop by contract. -/
namespace Go.Proofs.Ytkeffebcmajhmaa
open Go.RowKit
open Go.ChangeMaps (setBlock)
set_option linter.unusedVariables false
set_option linter.unusedSimpArgs false
/-- Block xb is the reference's poller: its net, its slab, its map f, of each slot what is watched; W: the blocks of what is watched. -/
structure RPAt (w : World) (xb n s m : Nat) (Fn Fs W : List Nat) (N : NS) (L : List Slot) (c : Int) (f : Int → Option Nat) (D : Nat → Wd) : Prop where
  blk : Blk w xb 129 (pcells n s m)
  net : NRep rc w n Fn N
  slab : RS w s Fs 4096 L c
  map : MapI w m f
  at_ : ∀ (k : Nat) (g v : Int), L[k]? = some (g, true, v) → ∃ p, f k = some p ∧ Blk w p 173 (wcells (D k)) ∧ (D k).id = v
  inj : ∀ (i j : Int) (p : Nat), f i = some p → f j = some p → i = j
  fw : ∀ (j : Int) (p : Nat), f j = some p → p ∈ W
  wl : ∀ p ∈ W, p < w.heap.size ∧ p ≠ xb ∧ p ≠ m
  d1 : ∀ k ∈ Fn, k ∉ Fs ∧ k ≠ xb ∧ k ≠ m ∧ k ∉ W
  d2 : ∀ k ∈ Fs, k ≠ xb ∧ k ≠ m ∧ k ∉ W
section
variable {w w' : World} {xb n s m : Nat} {Fn Fs W : List Nat} {N : NS} {L : List Slot} {c : Int} {f : Int → Option Nat} {D : Nat → Wd}
theorem RPAt.keeps {K : List Nat} (h : RPAt w xb n s m Fn Fs W N L c f D) (hk : Keeps K w w') (hK : ∀ k ∈ K, k ≠ xb ∧ k ∉ Fn ∧ k ∉ Fs ∧ k ≠ m ∧ k ∉ W) : RPAt w' xb n s m Fn Fs W N L c f D := by
  refine ⟨h.blk.keeps hk (fun hx => (hK _ hx).1 rfl), h.net.keeps hk (fun k hF hx => (hK k hx).2.1 hF), h.slab.keeps hk (fun k hF hx => (hK k hx).2.2.1 hF), h.map.keeps hk (fun hx => (hK _ hx).2.2.2.1 rfl), fun k g v hL => ?_, h.inj, h.fw, fun p hp => ?_, h.d1, h.d2⟩
  · obtain ⟨p, h1, h2, h3⟩ := h.at_ k g v hL
    exact ⟨p, h1, h2.keeps hk (fun hx => (hK _ hx).2.2.2.2 (h.fw _ _ h1)), h3⟩
  · obtain ⟨h1, h2⟩ := h.wl p hp
    exact ⟨Nat.lt_of_lt_of_le h1 hk.size, h2⟩
theorem RPAt.next (h : RPAt w xb n s m Fn Fs W N L c f D) (hk : Keeps [] w w') : RPAt w' xb n s m Fn Fs W N L c f D := h.keeps hk (by simp)
theorem RPAt.apart (h : RPAt w xb n s m Fn Fs W N L c f D) : m ≠ xb ∧ xb < w.heap.size ∧ m < w.heap.size := ⟨h.map.ne_blk h.blk, h.blk.lt, h.map.lt⟩
/-- the net has gone on. -/
theorem RPAt.netStep {N' : NS} (h : RPAt w xb n s m Fn Fs W N L c f D) (hd : NDone rc w n Fn N' w') : ∃ Fn', RPAt w' xb n s m Fn' Fs W N' L c f D ∧ LaterF Fn w Fn' ∧ Keeps Fn w w' := by
  obtain ⟨⟨F', h1, h2⟩, h3⟩ := hd
  obtain ⟨a1, a2, a3⟩ := h.apart
  refine ⟨F', ⟨h.blk.keeps h3 (fun hx => (h.d1 _ hx).2.1 rfl), h1, h.slab.keeps h3 (fun k hk hx => (h.d1 k hx).1 hk), h.map.keeps h3 (fun hx => (h.d1 _ hx).2.2.1 rfl), fun k g v hL => ?_, h.inj, h.fw, fun p hp => ?_, fun k hk => ?_, h.d2⟩, h2, h3⟩
  · obtain ⟨p, g1, g2, g3⟩ := h.at_ k g v hL
    exact ⟨p, g1, g2.keeps h3 (fun hx => (h.d1 _ hx).2.2.2 (h.fw _ _ g1)), g3⟩
  · obtain ⟨g1, g2⟩ := h.wl p hp
    exact ⟨Nat.lt_of_lt_of_le g1 h3.size, g2⟩
  · rcases h2 k hk with e | e
    · exact h.d1 k e
    · refine ⟨fun hx => ?_, by omega, by omega, fun hx => ?_⟩
      · have := h.slab.flt k hx
        omega
      · have := (h.wl k hx).1
        omega
/-- the reference's poller, its own blocks. -/
def RPRep (w : World) (xb n : Nat) (F : List Nat) (N : NS) (L : List Slot) (c : Int) (D : Nat → Wd) : Prop :=
  ∃ s m Fn Fs W f, RPAt w xb n s m Fn Fs W N L c f D ∧ F = xb :: m :: (Fn ++ (Fs ++ W))
theorem RPRep.keeps {F K : List Nat} (h : RPRep w xb n F N L c D) (hk : Keeps K w w') (hK : ∀ k ∈ K, k ∉ F) : RPRep w' xb n F N L c D := by
  obtain ⟨s, m, Fn, Fs, W, f, h, rfl⟩ := h
  refine ⟨s, m, Fn, Fs, W, f, h.keeps hk (fun k hx => ?_), rfl⟩
  have := hK k hx
  simp only [List.mem_cons, List.mem_append, not_or] at this
  obtain ⟨b1, b2, b3, b4, b5⟩ := this
  exact ⟨b1, b3, b4, b2, b5⟩
theorem RPRep.flt {F : List Nat} (h : RPRep w xb n F N L c D) : ∀ k ∈ F, k < w.heap.size := by
  obtain ⟨s, m, Fn, Fs, W, f, h, rfl⟩ := h
  obtain ⟨a1, a2, a3⟩ := h.apart
  intro k hk
  simp only [List.mem_cons, List.mem_append] at hk
  rcases hk with rfl | rfl | hk | hk | hk
  · exact a2
  · exact a3
  · exact h.net.flt k hk
  · exact h.slab.flt k hk
  · exact (h.wl k hk).1
/-- what is remembered of a slot that is not in use does not count. -/
theorem RPRep.congr {F : List Nat} {D' : Nat → Wd} (h : RPRep w xb n F N L c D) (hD : ∀ (k : Nat) (g v : Int), L[k]? = some (g, true, v) → D' k = D k) : RPRep w xb n F N L c D' := by
  obtain ⟨s, m, Fn, Fs, W, f, h, rfl⟩ := h
  refine ⟨s, m, Fn, Fs, W, f, ⟨h.blk, h.net, h.slab, h.map, fun k g v hL => ?_, h.inj, h.fw, h.wl, h.d1, h.d2⟩, rfl⟩
  rw [hD k g v hL]
  exact h.at_ k g v hL
/-- the net's steps. -/
theorem RPRep.net {F : List Nat} (h : RPRep w xb n F N L c D) : ∃ Fn, NRep rc w n Fn N ∧ (∀ k ∈ Fn, k ∈ F) ∧ ∀ N' w', NDone rc w n Fn N' w' → ∃ F', RPRep w' xb n F' N' L c D ∧ LaterF F w F' ∧ Keeps F w w' := by
  obtain ⟨s, m, Fn, Fs, W, f, h, rfl⟩ := h
  refine ⟨Fn, h.net, by simp +contextual, fun N' w' hd => ?_⟩
  obtain ⟨Fn', h2, h3, h4⟩ := h.netStep hd
  refine ⟨_, ⟨s, m, Fn', Fs, W, f, h2, rfl⟩, fun k hk => ?_, h4.mono (by simp +contextual)⟩
  simp only [List.mem_cons, List.mem_append] at hk ⊢
  rcases hk with hk | hk | hk | hk | hk
  · exact .inl (.inl hk)
  · exact .inl (.inr (.inl hk))
  · rcases h3 k hk with e | e
    · exact .inl (.inr (.inr (.inl e)))
    · exact .inr e
  · exact .inl (.inr (.inr (.inr (.inl hk))))
  · exact .inl (.inr (.inr (.inr (.inr hk))))
theorem RPRep.cells {F : List Nat} (h : RPRep w xb n F N L c D) : w.cell? ⟨xb, 0, none⟩ = some (.pointer (some ⟨n, 0, none⟩)) ∧ ∃ s, w.cell? ⟨xb, 1, none⟩ = some (.pointer (some ⟨s, 0, none⟩)) ∧ w.cell? ⟨s, 4, none⟩ = some (.int .i64 c) := by
  obtain ⟨s, m, Fn, Fs, W, f, h, rfl⟩ := h
  have h0 := h.blk.cell 0
  have h1 := h.blk.cell 1
  simp [pcells] at h0 h1
  exact ⟨h0, s, h1, h.slab.cN.1⟩
end
theorem rponew_ok (n : Nat) (Fn : List Nat) (N : NS) (w : World) (h : NRep rc w n Fn N) (D : Nat → Wd) : Calls Try.prog 66 #[.pointer (some ⟨n, 0, none⟩)] w fun e w' =>
    ∃ xb F, e = .returned (.tuple #[.pointer (some ⟨xb, 0, none⟩), .int .i64 0]) ∧ RPRep w' xb n F N [] 0 D ∧ (∀ k ∈ F, k ∈ Fn ∨ w.heap.size ≤ k) ∧ Keeps [] w w' := by
  have H := hid h
  clear h
  have hmm := @run_makeMap Try.prog
  go_enter Try.func66, Try.ntmps66
  go_wp2_with fail
  refine (rsnew_ok 4096 _ (by omega) (by omega)).mono ?_
  rintro e w1 ⟨rfl, hs1, hk1⟩
  have HS1 := hid hs1
  have HK1 := hid hk1
  have hz1 := hk1.size
  have hsl := hs1.flt w.heap.size (by simp)
  clear hs1 hk1
  go_wp2_with fail
  go_ret2
  have hF := H.out.flt
  refine ⟨_, _, rfl, ⟨w.heap.size, w1.heap.size, Fn, [w.heap.size], [], fun _ => none, ⟨?_, H.out.keeps ((HK1.out.alloc _).alloc _) (fun _ _ => List.not_mem_nil), (HS1.out.keeps (((Keeps.refl [] w1).alloc _).alloc _) (fun _ _ => List.not_mem_nil)), ?_, by simp, by simp, by simp, by simp, fun k hk => ?_, fun k hk => ?_⟩, rfl⟩, fun k hk => ?_, (HK1.out.alloc _).alloc _⟩
  · exact Blk.newAt (by simp)
  · exact ⟨[], 0, (Below.heap_alloc _ _ _ (by simp)).trans (heap_alloc_new w1 _), fun s => rfl⟩
  · have := hF k hk
    simp
    omega
  · simp at hk
    subst hk
    simp
    omega
  · simp at hk
    rcases hk with rfl | rfl | hk | rfl
    · right; omega
    · right; omega
    · exact .inl hk
    · right; omega
/-- Drop. -/
theorem rdrop_any (xb n : Nat) (F : List Nat) (N : NS) (L : List Slot) (c : Int) (D : Nat → Wd) (pv : Value) (hs : List (Int × Int)) (w : World) (h : RPRep w xb n F N L c D) (hp : HsIn w F pv hs) (hhs : hs.length ≤ 1099511627776) (hn0 : -1099511627776 ≤ c) (hn1 : c ≤ 1099511627776)
    (hlive : ∀ (k : Nat) (g v : Int), (takeAll L hs).1[k]? = some (g, true, v) → L[k]? = some (g, true, v)) :
    Calls Try.prog 100 #[.pointer (some ⟨xb, 0, none⟩), pv] w fun e w' => e = .returned (.int .i64 (takeAll L hs).2) ∧ RPRep w' xb n F N (takeAll L hs).1 (c - (takeAll L hs).2) D ∧ Keeps F w w' := by
  obtain ⟨s, m, Fn, Fs, W, f, h, rfl⟩ := h
  have H := hid h
  have HPV := hid hp
  have HL := hid hlive
  have p1 := h.blk.cell 1
  simp [pcells] at p1
  obtain ⟨A, cp, rfl, hp1, hp2⟩ := hp.shape
  clear h hp hlive
  go_enter Try.func100, Try.ntmps100
  go_wp2_with fail
  refine (rstake_any s Fs 4096 c L _ hs w H.out.slab (HPV.out.mono (fun j hj => by simp [hj])) hhs hn0 hn1).mono ?_
  rintro e w2 ⟨rfl, hs2, hk2⟩
  have HS2 := hid hs2
  have HK2 := hid hk2
  clear hs2 hk2
  go_wp2_with fail
  go_ret
  have d2 := H.out.d2
  refine ⟨rfl, ⟨s, m, Fn, Fs, W, f, ⟨H.out.blk.keeps HK2.out (fun hx => (d2 _ hx).1 rfl), H.out.net.keeps HK2.out (fun k hk hx => (H.out.d1 k hk).1 hx), HS2.out, H.out.map.keeps HK2.out (fun hx => (d2 _ hx).2.1 rfl), fun k g v hL => ?_, H.out.inj, H.out.fw, fun p hp => ?_, H.out.d1, H.out.d2⟩, rfl⟩, HK2.out.mono (by simp +contextual)⟩
  · obtain ⟨p, g1, g2, g3⟩ := H.out.at_ k g v (HL.out k g v hL)
    exact ⟨p, g1, g2.keeps HK2.out (fun hx => (d2 _ hx).2.2 (H.out.fw _ _ g1)), g3⟩
  · obtain ⟨g1, g2⟩ := H.out.wl p hp
    exact ⟨Nat.lt_of_lt_of_le g1 HK2.out.size, g2⟩
end Go.Proofs.Ytkeffebcmajhmaa
/- The reference's poller: Watch by contract. -/
namespace Go.Proofs.Ytkeffebcmajhmaa
open Go.RowKit
set_option linter.unusedVariables false
set_option linter.unusedSimpArgs false
def updD (D : Nat → Wd) (k : Nat) (d : Wd) : Nat → Wd := fun j => if j = k then d else D j
section
variable {w w3 w5 w6 : World} {xb n s m p : Nat} {Fn Fs Fs' W : List Nat} {N : NS} {L : List Slot} {c : Int} {f : Int → Option Nat} {D : Nat → Wd} {d : Wd}
theorem RPAt.add (h : RPAt w xb n s m Fn Fs W N L c f D) (hs3 : RS w3 s Fs' 4096 (putL L d.id) (c + 1)) (hla : Later Fs w Fs') (hk3 : Keeps Fs w w3) (hk5 : Keeps [] w3 w5) (hp : w3.heap.size ≤ p) (hb : Blk w5 p 173 (wcells d))
    (hm : MapI w6 m (putF f ((freeAt L : Nat) : Int) p)) (hk6 : Keeps [m] w5 w6) :
    RPAt w6 xb n s m Fn Fs' (p :: W) N (putL L d.id) (c + 1) (putF f ((freeAt L : Nat) : Int) p) (updD D (freeAt L) d) := by
  obtain ⟨a1, a2, a3⟩ := h.apart
  have hz3 := hk3.size
  have hz5 := hk5.size
  have hz6 := hk6.size
  have hk5' : Keeps Fs w w5 := hk3.trans hk5 (by simp)
  have hall : Keeps (m :: Fs) w w6 := (hk5'.mono (by simp +contextual)).trans hk6 (by simp)
  have hk36 : Keeps [m] w3 w6 := (hk5.mono (by simp)).trans hk6 (by simp)
  obtain ⟨q1, q2, q3, q4⟩ := put_keys (L := L) (v := d.id)
  have hms : m ∉ Fs := fun hx => (h.d2 _ hx).2.1 rfl
  refine ⟨h.blk.keeps hall (fun hx => ?_), h.net.keeps hall (fun k hF hx => ?_), ?_, hm, fun k g v hL => ?_, fun i j q hi hj => ?_, fun j q hj => ?_, fun q hq => ?_, fun k hF => ?_, fun k hF => ?_⟩
  · simp at hx
    rcases hx with hx | hx
    · exact a1 hx.symm
    · exact (h.d2 _ hx).1 rfl
  · simp at hx
    rcases hx with hx | hx
    · exact (h.d1 k hF).2.2.1 hx
    · exact (h.d1 k hF).1 hx
  · refine hs3.keeps hk36 (fun k hk hx => ?_)
    simp at hx
    subst hx
    rcases hla k hk with e | e
    · exact hms e
    · omega
  · by_cases hk : k = freeAt L
    · subst hk
      rw [q2] at hL
      injection hL with hL
      injection hL with hL1 hL2
      injection hL2 with _ hL2
      refine ⟨p, by simp [putF], ?_, ?_⟩
      · simp only [updD, if_true]
        refine hb.keeps hk6 (fun hc => ?_)
        simp at hc
        omega
      · simp only [updD, if_true]
        exact hL2
    · obtain ⟨q, g1, g2, g3⟩ := h.at_ k g v (q3 k _ hk hL)
      refine ⟨q, ?_, ?_, ?_⟩
      · unfold putF
        rw [if_neg (by omega)]
        exact g1
      · simp only [updD, if_neg hk]
        refine g2.keeps hall (fun hc => ?_)
        have hqW := h.fw _ _ g1
        simp at hc
        rcases hc with hc | hc
        · exact (h.wl q hqW).2.2 hc
        · exact (h.d2 _ hc).2.2 hqW
      · simp only [updD, if_neg hk]
        exact g3
  · unfold putF at hi hj
    by_cases hi0 : i = ((freeAt L : Nat) : Int) <;> by_cases hj0 : j = ((freeAt L : Nat) : Int)
    · omega
    · rw [if_pos hi0] at hi
      rw [if_neg hj0] at hj
      injection hi with hi
      have := (h.wl q (h.fw _ _ hj)).1
      omega
    · rw [if_neg hi0] at hi
      rw [if_pos hj0] at hj
      injection hj with hj
      have := (h.wl q (h.fw _ _ hi)).1
      omega
    · rw [if_neg hi0] at hi
      rw [if_neg hj0] at hj
      exact h.inj i j q hi hj
  · unfold putF at hj
    split at hj
    · injection hj with hj
      simp [hj]
    · exact List.mem_cons_of_mem _ (h.fw _ _ hj)
  · rcases List.mem_cons.1 hq with rfl | hq
    · have := hb.lt
      exact ⟨by omega, by omega, by omega⟩
    · obtain ⟨g1, g2⟩ := h.wl q hq
      exact ⟨by omega, g2⟩
  · obtain ⟨b1, b2, b3, b4⟩ := h.d1 k hF
    have hkw := h.net.flt k hF
    refine ⟨fun hx => ?_, b2, b3, fun hx => ?_⟩
    · rcases hla k hx with e | e
      · exact b1 e
      · omega
    · rcases List.mem_cons.1 hx with rfl | hx
      · omega
      · exact b4 hx
  · have hkw := hs3.flt k hF
    rcases hla k hF with e | e
    · obtain ⟨b1, b2, b3⟩ := h.d2 k e
      have := h.slab.flt k e
      refine ⟨b1, b2, fun hx => ?_⟩
      rcases List.mem_cons.1 hx with rfl | hx
      · omega
      · exact b3 hx
    · refine ⟨by omega, by omega, fun hx => ?_⟩
      rcases List.mem_cons.1 hx with rfl | hx
      · omega
      · have := (h.wl k hx).1
        omega
end
set_option maxRecDepth 100000 in
set_option maxHeartbeats 4000000 in
theorem rwatch_bad (xb n : Nat) (F : List Nat) (N : NS) (L : List Slot) (c : Int) (D : Nat → Wd) (id : Int) (rd wr_ ed : Bool) (w : World) (h : RPRep w xb n F N L c D) (h1 : id ≠ -1) (h2 : (stateN N id).2.1 = false) :
    Calls Try.prog 98 #[.pointer (some ⟨xb, 0, none⟩), .int .i64 id, .bool rd, .bool wr_, .bool ed] w (WatchNo w 2) := by
  obtain ⟨s, m, Fn, Fs, W, f, h, rfl⟩ := h
  have p0 := h.blk.cell 0
  simp [pcells] at p0
  have hne : (id != -1) = true := by simpa using h1
  obtain ⟨own, ps, vc, vq, hn⟩ := h.net
  clear h
  have q0 := fun o => alloc_cell p0 o
  have hb := Blk.new w 30 #[.int .i64 0, .int .i64 0]
  have r0 := hb.cell 0
  have r1 := hb.cell 1
  have f0 := hb.frozen 0
  have f1 := hb.frozen 1
  simp at r0 r1
  have n1 := hn.blk.cell 1
  simp [rc] at n1
  have m1 := fun o => alloc_cell n1 o
  clear hb n1 p0
  unfold stateN at h2
  rcases hn.which id with hk | ⟨i, p, d, rfl, hp, hd⟩
  · obtain ⟨A, cap, rfl, -⟩ := hn.rc.form
    have hk := rno_cases hn hk
    clear hn h2
    rcases hk with d0 | ⟨d0, d1⟩
    all_goals
      go_enter Try.func98, Try.ntmps98
      go_wp2_with fail
      try (go_quiet (fail); go_wp2_with fail)
      refine bodyPost_ret (v := .tuple #[.agg #[.int .i64 0, .int .i64 0], .int .i64 2]) (by simp [results, Try.results98, go_sem, r0, r1]) rfl ⟨rfl, by (repeat (first | exact Keeps.refl _ _ | exact .inr (Nat.le_refl _) | apply Keeps.drewN | apply Keeps.alloc | apply Keeps.setCell))⟩
  · rw [cnAt_some hd] at h2
    obtain ⟨p, b, off, cap, -, rfl, hkl, hle, hcap, hcell, hbn, vi, vo, vt, hc⟩ := hn.conn hd
    have c2 := hc.1.cell 2
    simp [rc] at c2
    simp only at h2
    rw [h2] at c2
    have e2 := fun o => alloc_cell c2 o
    have ec := fun o => alloc_cell hcell o
    have hki : (i : Int) < N.cs.length := by omega
    have d0 : decide ((i : Int) < 0) = false := by simp
    have d1 : decide ((N.cs.length : Int) ≤ (i : Int)) = false := by simp; omega
    clear hn hc hp hd h2 c2 hcell
    go_enter Try.func98, Try.ntmps98
    go_wp2_with fail
    try (go_quiet (fail); go_wp2_with fail)
    refine bodyPost_ret (v := .tuple #[.agg #[.int .i64 0, .int .i64 0], .int .i64 2]) (by simp [results, Try.results98, go_sem, r0, r1]) rfl ⟨rfl, by (repeat (first | exact Keeps.refl _ _ | exact .inr (Nat.le_refl _) | apply Keeps.drewN | apply Keeps.alloc | apply Keeps.setCell))⟩
end Go.Proofs.Ytkeffebcmajhmaa
