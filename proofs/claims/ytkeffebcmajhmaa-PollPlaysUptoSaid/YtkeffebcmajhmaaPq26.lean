/- The poller: Wait, its first loop. -/
import Derived.Test.YtkeffebcmajhmaaPq20
import Derived.Test.YtkeffebcmajhmaaPq25
namespace Go.Proofs.Ytkeffebcmajhmaa
open Go.RowKit
set_option linter.unusedVariables false
set_option linter.unusedSimpArgs false
/-- what is watched, when the first k Handles are through. -/
def stE (N : NS) (hs : List (Int × Int)) (es : List PX) (k : Nat) : List PX := es.map fun x => (x.1, if (x.1.s, x.1.g) ∈ hs.take k then (toldD N x.2).2.2 else x.2)
def sliceLen : Value → Nat
  | .slice _ n _ => n
  | _ => 0
theorem pwrap_i64 (x : Int) (h0 : 0 ≤ x) (h1 : x < 9223372036854775808) : IntKind.i64.wrap x = x := by
  have hb : IntKind.i64.bits = 64 := rfl
  have hs : IntKind.i64.signed = true := rfl
  unfold IntKind.wrap
  simp only [hb, hs]
  have e1 : x % (2 ^ 64 : Int) = x := Int.emod_eq_of_lt h0 (by omega)
  rw [e1]
  have e2 : ¬ (x ≥ (2 ^ (64 - 1) : Int)) := by omega
  simp
  omega
theorem evsV_take (l : List Ev) (k : Nat) : evsV (l.take k) = (evsV l).take (k * 5) := by
  induction l generalizing k with
  | nil => simp [evsV]
  | cons d l ih =>
    cases k with
    | zero => simp [evsV]
    | succ k =>
      have e1 : (k + 1) * 5 = k * 5 + 1 + 1 + 1 + 1 + 1 := by omega
      rw [e1]
      have h := ih k
      simp only [evsV, evV, List.take_succ_cons, List.flatMap_cons, List.cons_append, List.nil_append] at h ⊢
      rw [h]
theorem evsV_drop (l : List Ev) (k : Nat) : evsV (l.drop k) = (evsV l).drop (k * 5) := by
  induction l generalizing k with
  | nil => simp [evsV]
  | cons d l ih =>
    cases k with
    | zero => simp [evsV]
    | succ k =>
      have e1 : (k + 1) * 5 = k * 5 + 1 + 1 + 1 + 1 + 1 := by omega
      rw [e1]
      have h := ih k
      simp only [evsV, evV, List.drop_succ_cons, List.flatMap_cons, List.cons_append, List.nil_append] at h ⊢
      exact h
theorem evsV_one (l : List Ev) : ∀ u ∈ evsV l, u.oneCell' = true := by
  intro u hu
  obtain ⟨e, -, he⟩ := List.mem_flatMap.1 hu
  simp only [evV, List.mem_cons, List.not_mem_nil, or_false] at he
  rcases he with rfl | rfl | rfl | rfl | rfl <;> rfl
theorem reads_blk5 {w : World} {g : Nat} {t : TypeId} {a b c d e : Value} (h : Blk w g t #[a, b, c, d, e]) : Reads w 5 (some ⟨g, 0, none⟩) 1 [a, b, c, d, e] :=
  ⟨rfl, fun _ => ⟨_, rfl, fun j y hj => by
    rw [Addr.add_lit, Nat.zero_add, h.cell]
    simpa using hj⟩⟩
theorem allFrom_nodup2 (L : List Slot) (i : Nat) : (allFrom i L).Nodup := by
  have := allFrom_nodup L i
  rw [List.Nodup, List.pairwise_map] at this
  exact this.imp (fun h e => h (by rw [e]))
theorem take_not {α : Type} {l : List α} (hn : l.Nodup) {k : Nat} {x : α} (h : l[k]? = some x) : x ∉ l.take k := by
  intro hx
  obtain ⟨j, hj⟩ := List.getElem?_of_mem hx
  rw [List.getElem?_take] at hj
  split at hj
  · rename_i hjk
    have := (List.getElem?_inj (List.getElem?_eq_some_iff.1 hj).1 hn).1 (hj.trans h.symm)
    omega
  · cases hj
theorem stE_at {N : NS} {hs : List (Int × Int)} {es : List PX} {k : Nat} {x : PX} (hx : x ∈ es) (hn : (x.1.s, x.1.g) ∉ hs.take k) : x ∈ stE N hs es k :=
  List.mem_map.2 ⟨x, hx, by rw [if_neg hn]⟩
theorem stE_zero {N : NS} {hs : List (Int × Int)} {es : List PX} : stE N hs es 0 = es := by simp [stE]
theorem PAt.toldStep {w w' : World} {pb n s m : Nat} {Fn Fs : List Nat} {N : NS} {L : List Slot} {es : List PX} {clock : Nat} {hs : List (Int × Int)} {k : Nat} (h : PAt w pb n s m Fn Fs N L (stE N hs es k) clock) {x : PX} (hx : x ∈ es) (hk : hs[k]? = some (x.1.s, x.1.g)) (hn : (x.1.s, x.1.g) ∉ hs.take k) (hpn : (es.map (·.1.p)).Nodup) (hkn : (es.map (·.1.s)).Nodup)
    (hkeep : Keeps [x.1.p] w w') (hb : Blk w' x.1.p 153 (wcells (toldD N x.2).2.2)) : PAt w' pb n s m Fn Fs N L (stE N hs es (k + 1)) clock := by
  have hmem : x ∈ stE N hs es k := stE_at hx hn
  have h2 := h.upd (fun y => if y.1.s = x.1.s then (toldD N x.2).2.2 else y.2) (fun y hy => ?_) hkeep (fun k hk => ⟨x, hmem, by simpa using hk⟩) (fun y hy => ?_)
  · have he : ((stE N hs es k).map fun y => (y.1, if y.1.s = x.1.s then (toldD N x.2).2.2 else y.2)) = stE N hs es (k + 1) := by
      unfold stE
      rw [List.map_map]
      refine List.map_congr_left fun y hy => ?_
      simp only [Function.comp_apply]
      by_cases hs' : y.1.s = x.1.s
      · have hyx : y = x := nodup_inj (f := fun x : PX => x.1.s) hkn hy hx hs'
        subst hyx
        rw [if_pos rfl, if_pos]
        rw [List.take_add_one, hk]
        simp
      · rw [if_neg hs']
        congr 1
        have : ((y.1.s, y.1.g) ∈ hs.take (k + 1)) ↔ ((y.1.s, y.1.g) ∈ hs.take k) := by
          rw [List.take_add_one, hk]
          simp only [Option.toList, List.mem_append, List.mem_singleton, Prod.mk.injEq]
          constructor
          · rintro (h | h)
            · exact h
            · exact absurd h.1 hs'
          · exact .inl
        simp only [this]
    rw [he] at h2
    exact h2
  · by_cases hs' : y.1.s = x.1.s
    · have : y = x := nodup_inj (f := fun x : PX => x.1.s) h.kn hy hmem hs'
      subst this
      simp only [if_pos, toldD_id]
    · simp only [if_neg hs']
  · by_cases hs' : y.1.s = x.1.s
    · have : y = x := nodup_inj (f := fun x : PX => x.1.s) h.kn hy hmem hs'
      subst this
      simpa using hb
    · rw [if_neg hs']
      refine (h.at_ y hy).keeps hkeep (fun hc => hs' ?_)
      simp at hc
      have : y = x := nodup_inj (f := fun x : PX => x.1.p) h.pn hy hmem hc
      rw [this]
def WaitPost (w : World) (pb n : Nat) (F : List Nat) (N : NS) (L : List Slot) (ds : WL) (ps : List Int) (e : Ending) (w' : World) : Prop :=
  ∃ v, e = .returned v ∧ EvIn w' F v (pickE ps (evsP N L ds)) ∧ PRep w' pb n F N L (toldP N ds) ∧ Keeps F w w' ∧ ∀ k, v.ownBlock = some k → w.heap.size ≤ k
set_option maxRecDepth 100000 in
set_option maxHeartbeats 8000000 in
theorem wait_any (pb n : Nat) (F : List Nat) (N : NS) (L : List Slot) (ds : WL) (pv : Value) (ps : List Int) (w : World) (h : PRep w pb n F N L ds) (hL : L.length ≤ 1099511627776) (hp : CellsIn w F pv (ps.map (.int .i64))) :
    Calls Try.prog 54 #[.pointer (some ⟨pb, 0, none⟩), pv] w (WaitPost w pb n F N L ds ps) := by
  obtain ⟨s, m, Fn, Fs, es, clock, h, hds, rfl⟩ := h
  have H := hid h
  have p0 := h.blk.cell 0
  have p1 := h.blk.cell 1
  have p2 := h.blk.cell 2
  simp [pcells] at p0 p1 p2
  have HDS := hid hds
  have HPV := hid hp
  obtain ⟨POST, hPOST⟩ : ∃ P, WaitPost w pb n (pb :: m :: (Fn ++ (Fs ++ es.map (·.1.p)))) N L ds ps = P := ⟨_, rfl⟩
  rw [hPOST]
  have HP := hid hPOST
  clear hPOST
  obtain ⟨PA, pcap, rfl, hp1, hp2⟩ := hp.shape
  simp only [List.length_map] at hp1 HPV ⊢
  clear h hds hp
  obtain ⟨i1, hi1, hy0, hy1, hy2⟩ := info_parts event_info
  obtain ⟨j1, hj1, hx0, hx1, hx2⟩ := info_parts int_info
  obtain ⟨hs, hhs⟩ : ∃ hs, allFrom 0 L = hs := ⟨_, rfl⟩
  have hhl : hs.length ≤ 1099511627776 := by rw [← hhs]; have := allFrom_le L 0; omega
  have HHS := hid hhs
  clear hhs
  go_enter Try.func54, Try.ntmps54
  go_wp2_with (go_at_call 31; refine (sall_any s Fs 4096 es.length L _ H.out.slab hL).mono ?_; rw [HHS.out]; rintro e w1 ⟨⟨hv, rfl, hv1, ho1⟩, hk1⟩; obtain ⟨HA, hc, rfl, hc1, hc2, -⟩ := hv1.form; have HV0 := hid hv1; have HO1 := hid ho1; have HK1 := hid hk1; clear hv1 ho1 hk1)
  have HV1 : Hid (HsIn w1 (es.map (·.1.p)) (.slice HA hs.length hc) hs) := hid (Row.hsIn HV0.out (fun k hk hx => by
    obtain ⟨x, hx, he⟩ := List.mem_map.1 hx
    have h5 := HO1.out _ hk
    have h6 := H.out.apart.2.2.2.2 x hx
    omega))
  clear HV0
  go_loopw [5, 7, 8, 9, 10, 21] (fun l _ _ _ _ i wr => ∃ (k : Nat) (q : List Ev), k ≤ hs.length ∧ i = .int .i64 k ∧ (hs.take k).flatMap (evAt N ds) = q ∧ q.length ≤ k ∧ Row wr 95 5 l q.length (evsV q) ∧ (∀ j, l.ownBlock = some j → w1.heap.size ≤ j) ∧ PAt wr pb n s m Fn Fs N L (stE N hs es k) clock ∧ Keeps (es.map (·.1.p)) w1 wr) (fun _ _ _ _ _ i _ => hs.length - (intOf i).toNat)
  case atStart => exact ⟨0, [], Nat.zero_le _, rfl, rfl, Nat.le_refl _, Row.nil _ _ _, by simp [Value.ownBlock], by rw [stE_zero]; exact H.out.next HK1.out, Keeps.refl _ _⟩
  case round =>
    obtain ⟨k, q, hk, rfl, hq, hqk, hrow, hob, hpat, hkp⟩ := hrel
    have HROW := hid hrow
    have HOB := hid hob
    have HQ := hid hq
    have HPA := hid hpat
    have HKP := hid hkp
    obtain ⟨LA, lc, rfl, -⟩ := hrow.form
    clear hrow hob hq hpat hkp
    by_cases hlt : k < hs.length
    · obtain ⟨hd, hhd⟩ : ∃ d, hs[k]? = some d := ⟨hs[k], List.getElem?_eq_getElem hlt⟩
      obtain ⟨x, hx, hxk⟩ := H.out.entry (k := hd) (by rw [HHS.out]; exact List.mem_of_getElem? hhd)
      have hxn : hd ∉ hs.take k := take_not (by rw [← HHS.out]; exact allFrom_nodup2 L 0) hhd
      obtain ⟨ha, hg⟩ := hd
      injection hxk with hx1 hx2
      obtain ⟨b1, o1, rfl, -, hc1'⟩ := (HV1.out.keeps HKP.out (fun y hy => .inl hy)).at_ (by omega)
      obtain ⟨d0, d1⟩ := hc1' k (ha, hg) hhd
      simp only at d0 d1
      have hmem : x ∈ stE N hs es k := stE_at hx (by rw [hx1, hx2]; exact hxn)
      have HX := hid (⟨hx, hmem, hx1, hx2, hhd, hxn⟩ : x ∈ es ∧ x ∈ stE N hs es k ∧ x.1.s = ha ∧ x.1.g = hg ∧ hs[k]? = some (ha, hg) ∧ (ha, hg) ∉ hs.take k)
      have e2 := HPA.out.blk.cell 2
      simp [pcells] at e2
      have g2 := fun o => alloc_cell e2 o
      have hlook : lookE ((stE N hs es k).map (·.1)) ha hg = .pointer (some ⟨x.1.p, 0, none⟩) := by
        have := lookE_in HPA.out.kn hmem
        rw [hx1, hx2] at this
        exact this
      have hlk : ∀ (j : Nat), (Instr.lookup 91 (.map (some m)) (.agg #[.int .i64 ha, .int .i64 hg]) false).run Try.prog ((wr.alloc (.cells #[.int .i64 ha, .int .i64 hg] 30)).drewN j) = .ok (.pointer (some ⟨x.1.p, 0, none⟩)) ((wr.alloc (.cells #[.int .i64 ha, .int .i64 hg] 30)).drewN j) := fun j => by
        have := run_lookH (HPA.out.map.keeps (((Keeps.refl [] wr).alloc (.cells #[.int .i64 ha, .int .i64 hg] 30)).drewN j) (by simp)) ha hg
        rw [hlook] at this
        exact this
      have hki : (k : Int) < hs.length := by omega
      clear hlook hmem hx1 hx2 hx hhd hc1' hxn
      go_wp2_with fail
      go_quiet (fail)
      have hev : evAt N ds (ha, hg) = evOf N (ha, hg) x.2 := by
        obtain ⟨a1, a2, a3, a4, -⟩ := HX.out
        have := H.out.find a1
        rw [← HDS.out, a3, a4] at this
        unfold evAt
        rw [this]
      unfold evOf at hev
      obtain ⟨r, hr⟩ : ∃ r, (toldD N x.2).1 = r := ⟨_, rfl⟩
      obtain ⟨u, hu⟩ : ∃ u, (toldD N x.2).2.1 = u := ⟨_, rfl⟩
      rw [hr, hu] at hev
      have HEV := hid hev
      have HRU := hid (And.intro hr hu)
      clear hev hr hu e2 g2 hlk
      cases r <;> cases u
      all_goals
        have hbt := Blk.new wr 30 #[.int .i64 ha, .int .i64 hg]
        have HBT := hid hbt
        have hz0 := HKP.out.size
        have hzk := HK1.out.size
        clear hbt
        go_wp2_with (go_at_call 78; refine (told_any pb n s m x.1.p Fn N x.2 _ (HPA.out.next (((Keeps.refl [] wr).alloc _).drewN _)).blk (HPA.out.next (((Keeps.refl [] wr).alloc _).drewN _)).net ((HPA.out.next (((Keeps.refl [] wr).alloc _).drewN _)).at_ x HX.out.2.1)).mono ?_; unfold ToldPost; rw [HRU.out.1, HRU.out.2]; rintro e w3 ⟨rfl, hb3, hk3⟩; have HB3 := hid hb3; have HK3 := hid hk3; clear hb3 hk3)
        have hp3 : PAt w3 pb n s m Fn Fs N L (stE N hs es (k + 1)) clock := PAt.toldStep (HPA.out.next (((Keeps.refl [] wr).alloc (.cells #[.int .i64 ha, .int .i64 hg] 30)).drewN _)) HX.out.1 (by rw [HX.out.2.2.1, HX.out.2.2.2.1]; exact HX.out.2.2.2.2.1) (by rw [HX.out.2.2.1, HX.out.2.2.2.1]; exact HX.out.2.2.2.2.2) H.out.pn H.out.kn HK3.out HB3.out
        have HP3 := hid hp3
        have hpw := H.out.apart.2.2.2.2 x HX.out.1
        have kw3 : Keeps [x.1.p] wr w3 := ((((Keeps.refl [] wr).alloc (.cells #[.int .i64 ha, .int .i64 hg] 30)).drewN _).mono (by simp)).trans HK3.out (by simp)
        have KW3 := hid kw3
        have hr3 : Row w3 95 5 (.slice LA q.length lc) q.length (evsV q) := HROW.out.keeps KW3.out (fun j hj hx => by have := HOB.out j hj; simp at hx; omega)
        have HR3 := hid hr3
        have hkk3 : Keeps (es.map (·.1.p)) w1 w3 := HKP.out.trans KW3.out (fun g hg => by simp at hg; subst hg; exact .inl (List.mem_map.2 ⟨x, HX.out.1, rfl⟩))
        have HKK3 := hid hkk3
        have hst : (hs.take (k + 1)).flatMap (evAt N ds) = q ++ evAt N ds (ha, hg) := by
          rw [List.take_add_one, HX.out.2.2.2.2.1, Option.toList, List.flatMap_append, HQ.out]
          simp
        have HST := hid hst
        clear hp3 kw3 hr3 hkk3 hst
      · go_roundw
        case rel => exact ⟨k + 1, q, by omega, by go_num, by rw [HST.out, HEV.out]; simp, by omega, HR3.out, HOB.out, HP3.out, HKK3.out⟩
        case measure => simp [intOf] <;> omega
      all_goals
        have hbt3 := (HBT.out.drewN _).keeps HK3.out (by simp; omega)
        have c70 := hbt3.cell 0
        have c71 := hbt3.cell 1
        have cid := HB3.out.cell 0
        simp [wcells, toldD_id] at c70 c71 cid
        obtain ⟨S, hSe⟩ : ∃ S : World → Prop, ∀ w', S w' ↔ (w'.cell? ⟨x.1.p, 0, none⟩ = some (.int .i64 x.2.id) ∧ w'.cell? ⟨wr.heap.size, 0, none⟩ = some (.int .i64 ha) ∧ w'.cell? ⟨wr.heap.size, 1, none⟩ = some (.int .i64 hg)) := ⟨_, fun _ => Iff.rfl⟩
        have hSw1 : S w3.drew := (hSe _).2 ⟨cid, c70, c71⟩
        clear hbt3
        refine wp_region_held_drew (S := S) (by kernel_rfl) hSw1 (fun hHeld => ?_)
        refine wpAnyH_take (i := 0) (v := ?_) rfl (by kernel_rfl) (by kernel_rfl) (by kernel_rfl) (fun _ _ _ h => h) ?_ (by assumption) ?_
        rotate_left 1
        · first | (apply Or.inl; constructor; rfl; intro W hSw; obtain ⟨s1, s2, s3⟩ := (hSe W).1 hSw; go_simp; try (with_reducible rfl)) | (apply Or.inr; constructor; rfl; rfl)
        try simp only [Act.put, List.getElem_toArray, List.getElem_cons_succ, List.getElem_cons_zero, List.setIfInBounds_toArray, List.set_cons_zero, List.set_cons_succ]
        refine wpAnyH_take (i := 1) (v := ?_) rfl (by kernel_rfl) (by kernel_rfl) (by kernel_rfl) (fun _ _ _ h => h) ?_ (by assumption) ?_
        rotate_left 1
        · first | (apply Or.inl; constructor; rfl; intro W hSw; obtain ⟨s1, s2, s3⟩ := (hSe W).1 hSw; go_simp; try (with_reducible rfl)) | (apply Or.inr; constructor; rfl; rfl)
        try simp only [Act.put, List.getElem_toArray, List.getElem_cons_succ, List.getElem_cons_zero, List.setIfInBounds_toArray, List.set_cons_zero, List.set_cons_succ]
        refine wpAnyH_take (i := 2) (v := ?_) rfl (by kernel_rfl) (by kernel_rfl) (by kernel_rfl) (fun _ _ _ h => h) ?_ (by assumption) ?_
        rotate_left 1
        · first | (apply Or.inl; constructor; rfl; intro W hSw; obtain ⟨s1, s2, s3⟩ := (hSe W).1 hSw; go_simp; try (with_reducible rfl)) | (apply Or.inr; constructor; rfl; rfl)
        try simp only [Act.put, List.getElem_toArray, List.getElem_cons_succ, List.getElem_cons_zero, List.setIfInBounds_toArray, List.set_cons_zero, List.set_cons_succ]
        refine wpAnyH_take (i := 3) (v := ?_) rfl (by kernel_rfl) (by kernel_rfl) (by kernel_rfl) (fun _ _ _ h => h) ?_ (by assumption) ?_
        rotate_left 1
        · first | (apply Or.inl; constructor; rfl; intro W hSw; obtain ⟨s1, s2, s3⟩ := (hSe W).1 hSw; go_simp; try (with_reducible rfl)) | (apply Or.inr; constructor; rfl; rfl)
        try simp only [Act.put, List.getElem_toArray, List.getElem_cons_succ, List.getElem_cons_zero, List.setIfInBounds_toArray, List.set_cons_zero, List.set_cons_succ]
        refine wpAnyH_take (i := 4) (v := ?_) rfl (by kernel_rfl) (by kernel_rfl) (by kernel_rfl) (fun _ _ _ h => h) ?_ (by assumption) ?_
        rotate_left 1
        · first | (apply Or.inl; constructor; rfl; intro W hSw; obtain ⟨s1, s2, s3⟩ := (hSe W).1 hSw; go_simp; try (with_reducible rfl)) | (apply Or.inr; constructor; rfl; rfl)
        try simp only [Act.put, List.getElem_toArray, List.getElem_cons_succ, List.getElem_cons_zero, List.setIfInBounds_toArray, List.set_cons_zero, List.set_cons_succ]
        refine wpAnyH_take (i := 5) (v := ?_) rfl (by kernel_rfl) (by kernel_rfl) (by kernel_rfl) (fun _ _ _ h => h) ?_ (by assumption) ?_
        rotate_left 1
        · first | (apply Or.inl; constructor; rfl; intro W hSw; obtain ⟨s1, s2, s3⟩ := (hSe W).1 hSw; go_simp; try (with_reducible rfl)) | (apply Or.inr; constructor; rfl; rfl)
        try simp only [Act.put, List.getElem_toArray, List.getElem_cons_succ, List.getElem_cons_zero, List.setIfInBounds_toArray, List.set_cons_zero, List.set_cons_succ]
        refine wpAnyH_take (i := 6) (v := ?_) rfl (by kernel_rfl) (by kernel_rfl) (by kernel_rfl) (fun _ _ _ h => h) ?_ (by assumption) ?_
        rotate_left 1
        · first | (apply Or.inl; constructor; rfl; intro W hSw; obtain ⟨s1, s2, s3⟩ := (hSe W).1 hSw; go_simp; try (with_reducible rfl)) | (apply Or.inr; constructor; rfl; rfl)
        try simp only [Act.put, List.getElem_toArray, List.getElem_cons_succ, List.getElem_cons_zero, List.setIfInBounds_toArray, List.set_cons_zero, List.set_cons_succ]
        refine wpAnyH_take (i := 7) (v := ?_) rfl (by kernel_rfl) (by kernel_rfl) (by kernel_rfl) (fun _ _ _ h => h) ?_ (by assumption) ?_
        rotate_left 1
        · first | (apply Or.inl; constructor; rfl; intro W hSw; obtain ⟨s1, s2, s3⟩ := (hSe W).1 hSw; go_simp; try (with_reducible rfl)) | (apply Or.inr; constructor; rfl; rfl)
        try simp only [Act.put, List.getElem_toArray, List.getElem_cons_succ, List.getElem_cons_zero, List.setIfInBounds_toArray, List.set_cons_zero, List.set_cons_succ]
        refine wpAnyH_take (i := 8) (v := ?_) rfl (by kernel_rfl) (by kernel_rfl) (by kernel_rfl) (fun _ _ _ h => h) ?_ (by assumption) ?_
        rotate_left 1
        · first | (apply Or.inl; constructor; rfl; intro W hSw; obtain ⟨s1, s2, s3⟩ := (hSe W).1 hSw; go_simp; try (with_reducible rfl)) | (apply Or.inr; constructor; rfl; rfl)
        try simp only [Act.put, List.getElem_toArray, List.getElem_cons_succ, List.getElem_cons_zero, List.setIfInBounds_toArray, List.set_cons_zero, List.set_cons_succ]
        refine wpAnyH_ready (rs := [9]) (by kernel_rfl) (by simp) ?_
        refine AllReadyH.cons rfl (fun K hK => ?_) AllReadyH.nil
        go_simp
        refine hK.out _ _ ((hSe _).2 ⟨cell_keep (((Keeps.refl [] w3).alloc _).drew) (by simp) cid, cell_keep (((Keeps.refl [] w3).alloc _).drew) (by simp) c70, cell_keep (((Keeps.refl [] w3).alloc _).drew) (by simp) c71⟩) (fun hHeld => ?_)
        clear hK K
        try simp only [Act.put, List.getElem_toArray, List.getElem_cons_succ, List.getElem_cons_zero, List.setIfInBounds_toArray, List.set_cons_zero, List.set_cons_succ]
        refine wpAnyH_ready (rs := [10]) (by kernel_rfl) (by simp) ?_
        refine AllReadyH.cons rfl (fun K hK => ?_) AllReadyH.nil
        refine step_append_row _ rfl (.tmp 41) (.tmp 50) _ rfl 95 i1 _ 5 32 Try.underlying88 hi1 hy0 hy1 hy2 rfl (by omega) (.slice LA q.length lc) q.length _ rfl ((HR3.out.alloc _).drew) (some ⟨w3.heap.size, 0, none⟩) 1 1 [_, _, _, _, _] rfl (reads_blk5 (Blk.drew (Blk.newAt (by simp)))) (by simp [Value.oneCell']) (by simp only [maxLen]; omega) (by omega) ?_
        intro v2 w6 hv2 hk2 ho2
        have HV2 := hid hv2
        have HK2 := hid hk2
        have HO2 := hid ho2
        clear hv2 hk2 ho2
        have hxo : x.1.p ∉ (Value.slice LA q.length lc).ownBlock.toList := fun hx => by
          have := HOB.out x.1.p (by simpa using hx)
          omega
        have hwo : wr.heap.size ∉ (Value.slice LA q.length lc).ownBlock.toList := fun hx => by
          have := HROW.out.lt wr.heap.size (by simpa using hx)
          omega
        have k36 := (((Keeps.refl [] w3).alloc (.cells #[.int .i64 ha, .int .i64 hg, .int .i64 x.2.id, .bool false, .bool false] 95)).drew).size
        refine hK.out _ _ ((hSe _).2 ⟨cell_keep HK2.out hxo (cell_keep (((Keeps.refl [] w3).alloc _).drew) (by simp) cid), cell_keep HK2.out hwo (cell_keep (((Keeps.refl [] w3).alloc _).drew) (by simp) c70), cell_keep HK2.out hwo (cell_keep (((Keeps.refl [] w3).alloc _).drew) (by simp) c71)⟩) (fun hHeld => ?_)
        clear hK K
        try simp only [Act.put, List.getElem_toArray, List.getElem_cons_succ, List.getElem_cons_zero, List.setIfInBounds_toArray, List.set_cons_zero, List.set_cons_succ]
        refine wpAnyH_take (i := 11) (v := ?_) rfl (by kernel_rfl) (by kernel_rfl) (by kernel_rfl) (fun _ _ _ h => h) ?_ (by assumption) ?_
        rotate_left 1
        · first | (apply Or.inl; constructor; rfl; intro W hSw; obtain ⟨s1, s2, s3⟩ := (hSe W).1 hSw; go_simp; try (with_reducible rfl)) | (apply Or.inr; constructor; rfl; rfl)
        try simp only [Act.put, List.getElem_toArray, List.getElem_cons_succ, List.getElem_cons_zero, List.setIfInBounds_toArray, List.set_cons_zero, List.set_cons_succ]
        refine wpAnyH_done (by kernel_rfl) ?_ _
        go_wp2_with fail
        go_roundw
        case rel =>
          have hev2 := HEV.out
          simp at hev2
          have hv := HV2.out
          have hge : ∀ g ∈ (Value.slice LA q.length lc).ownBlock.toList, w1.heap.size ≤ g := fun g hg => HOB.out g (by simpa using hg)
          refine ⟨k + 1, q ++ evAt N ds (ha, hg), by omega, by go_num, HST.out, by rw [hev2]; simp; omega, ?_, fun j hj => ?_, ?_, ?_⟩
          · rw [hev2, evsV_append]
            simpa [evsV, evV] using hv
          · rcases HO2.out j hj with h | h
            · exact HOB.out j h
            · have h7 := HKK3.out.size
              simp at h
              omega
          · refine (HP3.out.next (((Keeps.refl [] w3).alloc _).drew)).keeps HK2.out (fun g hg => ?_)
            have hgg := hge g hg
            obtain ⟨a1, a2, a3, a4, a5⟩ := H.out.apart
            refine ⟨by omega, fun hx => by have := H.out.net.flt g hx; omega, fun hx => by have := H.out.slab.flt g hx; omega, by omega, fun y hy => ?_⟩
            obtain ⟨z, hz, rfl⟩ := List.mem_map.1 hy
            have h8 := a5 z hz
            simp only
            omega
          · exact (HKK3.out.trans (((Keeps.refl [] w3).alloc _).drew) (by simp)).trans HK2.out (fun g hg => .inr (hge g hg))
        case measure => simp [intOf] <;> omega
    · have hkl : k = hs.length := by omega
      subst hkl
      have HQE : Hid (hs.flatMap (evAt N ds) = q) := hid (by have := HQ.out; rwa [List.take_length] at this)
      have hes : stE N hs es hs.length = es.map fun x => (x.1, (toldD N x.2).2.2) := by
        unfold stE
        refine List.map_congr_left fun y hy => ?_
        rw [List.take_length, if_pos (by rw [← HHS.out]; exact H.out.keyed hy)]
      have HPE : Hid (PAt wr pb n s m Fn Fs N L (es.map fun x => (x.1, (toldD N x.2).2.2)) clock) := hid (by have := HPA.out; rwa [hes] at this)
      have HWK : Hid (Keeps (es.map (·.1.p)) w wr) := hid ((HK1.out.mono (by simp)).trans HKP.out (by simp +contextual))
      have hsl := HOB.out
      have hlt3 := HROW.out.lt
      have HOL := hid (And.intro hsl hlt3)
      have hq40 : q.length ≤ 1099511627776 := by omega
      have hz1 := HK1.out.size
      have hz2 := HKP.out.size
      have HPW : Hid (CellsIn wr (Value.slice LA q.length lc).ownBlock.toList (.slice PA ps.length pcap) (ps.map (.int .i64))) := hid (by
        obtain ⟨A, c, hv, g1, g2, g3⟩ := HPV.out
        refine ⟨A, c, hv, g1, g2, fun hp => ?_⟩
        obtain ⟨b, o, hA, hb, hcc⟩ := g3 hp
        have hblt := World.block_lt_of_cell? w _ (hcc 0 _ (List.getElem?_eq_getElem hp))
        simp only at hblt
        refine ⟨b, o, hA, fun hx => ?_, fun j u hu => cell_keep HWK.out (fun hx => hb ?_) (hcc j u hu)⟩
        · have := hsl b (by simpa using hx)
          omega
        · simp only [List.mem_cons, List.mem_append]
          exact .inr (.inr (.inr (.inr hx))))
      clear hes HQ HPA HKP HV1 HO1 hc1 hc2 hsl hlt3
      obtain ⟨OL, hOL⟩ : ∃ l, (Value.slice LA q.length lc).ownBlock.toList = l := ⟨_, rfl⟩
      rw [hOL] at HPW
      have HOO := hid hOL
      clear hOL
      go_wp2
      obtain ⟨W0, rfl⟩ : ∃ x, x = wr := ⟨wr, rfl⟩
      go_loopw [1, 5, 11, 12] (fun pvk l o _ wx => ∃ (p : List Int) (r out : List Ev), out ++ pickE p r = pickE ps q ∧ out.length + r.length = q.length ∧ CellsIn W0 OL pvk (p.map (.int .i64)) ∧ Row wx 95 5 l r.length (evsV r) ∧ Row wx 95 5 o out.length (evsV out) ∧ (∀ j, l.ownBlock = some j → j ∈ OL ∨ W0.heap.size ≤ j) ∧ (∀ j, o.ownBlock = some j → W0.heap.size ≤ j) ∧ (∀ j, l.ownBlock = some j → o.ownBlock ≠ some j) ∧ Keeps OL W0 wx) (fun _ l _ _ _ => sliceLen l)
      case atStart => exact ⟨ps, q, [], by simp, by simp, HPW.out, HROW.out, Row.nil _ _ _, fun j hj => .inl (by rw [← HOO.out]; simpa using hj), by simp [Value.ownBlock], by simp [Value.ownBlock], Keeps.refl _ _⟩
      case round =>
        obtain ⟨p, r, out, hpick, hlen, hpc, hrr, hro, hl1, ho1, hlo, hkx⟩ := hrel
        have HPK := hid hpick
        have HPC := hid hpc
        have HRR := hid hrr
        have HRO := hid hro
        have HL1 := hid hl1
        have HO1 := hid ho1
        have HLO := hid hlo
        have HKX := hid hkx
        obtain ⟨RA, rc, rfl, hr1, hr2, -⟩ := hrr.form
        obtain ⟨OA, oc, rfl, -⟩ := hro.form
        obtain ⟨PA2, pc2, rfl, hp3, hp4⟩ := hpc.shape
        simp only [List.length_map] at hp3 HPC ⊢
        clear hpick hpc hrr hro hl1 ho1 hlo hkx
        by_cases hr0 : 0 < r.length
        · have hri : (0 : Int) < r.length := by omega
          go_upto_if 58 with (fail)
          go_cut [1, 12] (fun a i wx => i = .int .i64 (pickI p r.length : Nat) ∧ CellsIn W0 OL a ((p.drop 1).map (.int .i64)) ∧ Keeps [] wr wx)
          case first =>
            cases p with
            | nil =>
              go_wp2_with fail
              go_meet
              case rel => exact ⟨rfl, HPC.out, Keeps.refl _ _⟩
            | cons x p =>
              obtain ⟨b, o, rfl, -, hcc⟩ := (HPC.out.keeps HKX.out (fun k hk => .inl hk)).at_ (by simp)
              have hx0 := hcc 0 (.int .i64 x) rfl
              rw [Nat.add_zero] at hx0
              have hrz : ((r.length : Nat) : Int) ≠ 0 := by omega
              clear hcc
              have hpl : (0 : Int) < ((x :: p).length : Nat) := by simp only [List.length_cons]; omega
              obtain ⟨M, hM⟩ : ∃ M, max 0 x = M := ⟨_, rfl⟩
              have hM0 : 0 ≤ M := by omega
              have hmx : ∀ ts t wx, (Builtin.max_ ts t #[.int .i64 0, .int .i64 x]).run Try.prog wx = .ok (.int .i64 M) wx := fun ts t wx => by
                rw [run_max_int2]
                congr 2
                split <;> omega
              obtain ⟨l, hl⟩ : ∃ l, (x :: p).length = l := ⟨_, rfl⟩
              rw [hl] at HPC hpl hp3 ⊢
              have hl2 : p.length = l - 1 := by simp at hl; omega
              have hsl := fun wx => run_cut_lo (P := Try.prog) wx 22 3 j1 1 Try.underlying22 hj1 hx1 (some ⟨b, o, none⟩) l pc2 1 (1 : Int) rfl .i64 (by omega)
              have HLL := hid hl
              clear hl
              go_wp2_with fail
              go_meet
              case rel =>
                refine ⟨?_, ?_, Keeps.refl _ _⟩
                · congr 1
                  show _ = (((max 0 x).toNat % r.length : Nat) : Int)
                  rw [Int.natCast_emod, hM, Int.toNat_of_nonneg hM0]
                · have h9 := HPC.out.cut (lo := 1) (hi := l) (by omega) (Nat.le_refl _)
                  have h10 : (List.drop 1 ((x :: p).map (Value.int .i64))).take (l - 1) = ((x :: p).drop 1).map (.int .i64) := by
                    simp only [List.map_cons, List.drop_succ_cons, List.drop_zero]
                    rw [List.take_of_length_le (by simp; omega)]
                  rw [h10] at h9
                  exact h9
          case rest =>
            obtain ⟨rfl, hpc2, hkc⟩ := hcut
            have hIl := pickI_lt p hr0
            obtain ⟨I, hI⟩ : ∃ I, pickI p r.length = I := ⟨_, rfl⟩
            rw [hI] at hIl ⊢
            have HI := hid hI
            obtain ⟨e, he⟩ : ∃ e, r[I]? = some e := ⟨_, List.getElem?_eq_getElem hIl⟩
            have HE := hid he
            have HPC2 := hid hpc2
            have HKC := hid hkc
            have hrw := HRR.out.keeps hkc (by simp)
            have HRW := hid hrw
            have hov := HRO.out.keeps hkc (by simp)
            have HOV := hid hov
            obtain ⟨rb, ro, rfl, -, hcc⟩ := (Row.evIn (F := []) hrw (by simp)).at_ hr0
            obtain ⟨x0, x1, x2, x3, x4⟩ := hcc I e he
            obtain ⟨⟨ea, eb⟩, ec, ed, ee⟩ := e
            simp only at x0 x1 x2 x3 x4
            have hIi : (I : Int) < r.length := by omega
            have hl40 : r.length ≤ 1099511627776 := by omega
            have ho40 : out.length ≤ 1099511627776 := by omega
            clear hI he hpc2 hkc hrw hov hcc
            go_wp2_with (at_builtin; refine wpList_append_row _ rfl (.tmp 68) (.tmp 73) _ rfl 95 i1 _ 5 32 Try.underlying88 hi1 hy0 hy1 hy2 rfl (by omega) (.slice OA out.length oc) out.length _ rfl (HOV.out.alloc _) (some ⟨wc.heap.size, 0, none⟩) 1 1 [_, _, _, _, _] rfl (reads_blk5 (Blk.newAt (by simp))) (by simp [Value.oneCell']) (by simp only [maxLen]; omega) (by omega) ?_; intro v2 w2 hv2 hk2 ho2; have HV2 := hid hv2; have HK2 := hid hk2; have HO2 := hid ho2; clear hv2 hk2 ho2)
            have hwr : IntKind.i64.wrap ((I : Int) + 1) = (I : Int) + 1 := pwrap_i64 _ (by omega) (by omega)
            have hs1 := fun wx => run_cut_hi (P := Try.prog) wx 88 95 i1 5 Try.underlying88 hi1 hy1 (some ⟨rb, ro, none⟩) r.length rc I (I : Int) rfl .i64 (by omega)
            have hcz : cutA (some (⟨rb, ro, none⟩ : Addr)) 0 rc 5 = some ⟨rb, ro, none⟩ := by
              unfold cutA
              split
              · rfl
              · simp [Addr.add]
            simp only [hcz] at hs1
            have hs2 := fun wx => run_cut_lo (P := Try.prog) wx 88 95 i1 5 Try.underlying88 hi1 hy1 (some ⟨rb, ro, none⟩) r.length rc (I + 1) ((I : Int) + 1) (by omega) .i64 (by omega)
            refine wp_region_held_drew (S := fun _ => True) (by kernel_rfl) trivial (fun hHeld => ?_)
            refine wpAnyH_take (i := 0) (v := ?_) rfl (by kernel_rfl) (by kernel_rfl) (by kernel_rfl) (fun _ _ _ h => h) ?_ (by trivial) ?_
            rotate_left 1
            · first | (apply Or.inl; constructor; rfl; intro W hSw; go_simp; try (with_reducible rfl)) | (apply Or.inr; constructor; rfl; rfl)
            try simp only [Act.put, List.getElem_toArray, List.getElem_cons_succ, List.getElem_cons_zero, List.setIfInBounds_toArray, List.set_cons_zero, List.set_cons_succ]
            refine wpAnyH_take (i := 1) (v := ?_) rfl (by kernel_rfl) (by kernel_rfl) (by kernel_rfl) (fun _ _ _ h => h) ?_ (by trivial) ?_
            rotate_left 1
            · first | (apply Or.inl; constructor; rfl; intro W hSw; go_simp; try (with_reducible rfl)) | (apply Or.inr; constructor; rfl; rfl)
            try simp only [Act.put, List.getElem_toArray, List.getElem_cons_succ, List.getElem_cons_zero, List.setIfInBounds_toArray, List.set_cons_zero, List.set_cons_succ]
            refine wpAnyH_take (i := 2) (v := ?_) rfl (by kernel_rfl) (by kernel_rfl) (by kernel_rfl) (fun _ _ _ h => h) ?_ (by trivial) ?_
            rotate_left 1
            · first | (apply Or.inl; constructor; rfl; intro W hSw; go_simp; try (with_reducible rfl)) | (apply Or.inr; constructor; rfl; rfl)
            try simp only [Act.put, List.getElem_toArray, List.getElem_cons_succ, List.getElem_cons_zero, List.setIfInBounds_toArray, List.set_cons_zero, List.set_cons_succ]
            refine wpAnyH_take (i := 3) (v := ?_) rfl (by kernel_rfl) (by kernel_rfl) (by kernel_rfl) (fun _ _ _ h => h) ?_ (by trivial) ?_
            rotate_left 1
            · first | (apply Or.inl; constructor; rfl; intro W hSw; go_simp; try (with_reducible rfl)) | (apply Or.inr; constructor; rfl; rfl)
            try simp only [Act.put, List.getElem_toArray, List.getElem_cons_succ, List.getElem_cons_zero, List.setIfInBounds_toArray, List.set_cons_zero, List.set_cons_succ]
            refine wpAnyH_take (i := 4) (v := ?_) rfl (by kernel_rfl) (by kernel_rfl) (by kernel_rfl) (fun _ _ _ h => h) ?_ (by trivial) ?_
            rotate_left 1
            · first | (apply Or.inl; constructor; rfl; intro W hSw; go_simp; try (with_reducible rfl)) | (apply Or.inr; constructor; rfl; rfl)
            try simp only [Act.put, List.getElem_toArray, List.getElem_cons_succ, List.getElem_cons_zero, List.setIfInBounds_toArray, List.set_cons_zero, List.set_cons_succ]
            refine wpAnyH_take (i := 5) (v := ?_) rfl (by kernel_rfl) (by kernel_rfl) (by kernel_rfl) (fun _ _ _ h => h) ?_ (by trivial) ?_
            rotate_left 1
            · first | (apply Or.inl; constructor; rfl; intro W hSw; go_simp; try (with_reducible rfl)) | (apply Or.inr; constructor; rfl; rfl)
            try simp only [Act.put, List.getElem_toArray, List.getElem_cons_succ, List.getElem_cons_zero, List.setIfInBounds_toArray, List.set_cons_zero, List.set_cons_succ]
            refine wpAnyH_take (i := 6) (v := ?_) rfl (by kernel_rfl) (by kernel_rfl) (by kernel_rfl) (fun _ _ _ h => h) ?_ (by trivial) ?_
            rotate_left 1
            · first | (apply Or.inl; constructor; rfl; intro W hSw; go_simp; try (with_reducible rfl)) | (apply Or.inr; constructor; rfl; rfl)
            try simp only [Act.put, List.getElem_toArray, List.getElem_cons_succ, List.getElem_cons_zero, List.setIfInBounds_toArray, List.set_cons_zero, List.set_cons_succ]
            refine wpAnyH_ready (rs := [7]) (by kernel_rfl) (by simp) ?_
            refine AllReadyH.cons rfl (fun K hK => ?_) AllReadyH.nil
            have hwz := HKC.out.size
            have hwz2 := HKX.out.size
            have hoa : ∀ g ∈ (Value.slice OA out.length oc).ownBlock.toList, W0.heap.size ≤ g := fun g hg => HO1.out g (by simpa using hg)
            have hk5 : Keeps (Value.slice OA out.length oc).ownBlock.toList wc w2 := (((Keeps.refl [] wc).alloc _).mono (by simp)).trans HK2.out (by simp +contextual)
            have hr5 : Row w2 95 5 (.slice (some ⟨rb, ro, none⟩) r.length rc) r.length (evsV r) := HRW.out.keeps hk5 (fun j hj hx => HLO.out j hj (by simpa using hx))
            have HR5 := hid hr5
            have hcut := hr5.cut (lo := I + 1) (by omega)
            have HCU := hid hcut
            clear hr5 hcut
            refine step_append_row _ rfl (.tmp 77) (.tmp 81) _ rfl 95 i1 _ 5 32 Try.underlying88 hi1 hy0 hy1 hy2 rfl (by omega) (.slice (some ⟨rb, ro, none⟩) I rc) I _ rfl ((HR5.out.take (m := I) (by omega)).drew) _ (r.length - (I + 1)) _ _ rfl (HCU.out.drew).reads (fun u hu => evsV_one r u (List.mem_of_mem_drop hu)) (by simp only [maxLen]; omega) (by omega) ?_
            intro v3 w3 hv3 hk3 ho3
            have HV3 := hid hv3
            have HK3 := hid hk3
            have HO3 := hid ho3
            clear hv3 hk3 ho3
            refine hK.out _ _ trivial (fun hHeld => ?_)
            clear hK K
            try simp only [Act.put, List.getElem_toArray, List.getElem_cons_succ, List.getElem_cons_zero, List.setIfInBounds_toArray, List.set_cons_zero, List.set_cons_succ]
            refine wpAnyH_take (i := 8) (v := ?_) rfl (by kernel_rfl) (by kernel_rfl) (by kernel_rfl) (fun _ _ _ h => h) ?_ (by trivial) ?_
            rotate_left 1
            · first | (apply Or.inl; constructor; rfl; intro W hSw; go_simp; try (with_reducible rfl)) | (apply Or.inr; constructor; rfl; rfl)
            try simp only [Act.put, List.getElem_toArray, List.getElem_cons_succ, List.getElem_cons_zero, List.setIfInBounds_toArray, List.set_cons_zero, List.set_cons_succ]
            refine wpAnyH_done (by kernel_rfl) ?_ _
            go_wp2_with fail
            go_roundw
            case rel =>
              have hps := pickE_step p (r := r) (e := ((ea, eb), ec, ed, ee)) (by rw [HI.out]; exact HE.out)
              rw [HI.out] at hps
              have hle : (r.eraseIdx I).length = I + (r.length - (I + 1)) := by rw [List.length_eraseIdx_of_lt hIl]; omega
              have hw2 : wc.heap.size < w2.heap.size := by have := HK2.out.size; simp at this; omega
              refine ⟨p.drop 1, r.eraseIdx I, out ++ [((ea, eb), ec, ed, ee)], ?_, ?_, HPC2.out, ?_, ?_, fun j hj => ?_, fun j hj => ?_, fun j hj hj2 => ?_, ?_⟩
              · rw [← HPK.out, hps]
                simp
              · rw [hle]
                simp
                omega
              · have h1 := HV3.out
                rw [hle, List.eraseIdx_eq_take_drop_succ, evsV_append, evsV_take, evsV_drop]
                exact h1
              · have h1 := (HV2.out.drew).keeps HK3.out (fun j hj hx => by
                  rcases HO2.out j hj with h | h
                  · exact HLO.out j (by simp [Value.ownBlock] at hx ⊢; exact hx.symm) h
                  · have := HRW.out.lt j (by simp [Value.ownBlock] at hx ⊢; exact hx.symm)
                    simp at h
                    omega)
                rw [evsV_append]
                simpa [evsV, evV] using h1
              · rcases HO3.out j hj with h | h
                · exact HL1.out j (by simpa [Value.ownBlock] using h)
                · right
                  have := HK2.out.size
                  simp at h this
                  omega
              · rcases HO2.out j hj with h | h
                · exact HO1.out j h
                · simp at h
                  omega
              · rcases HO3.out j hj with h | h
                · rcases HO2.out j hj2 with h' | h'
                  · exact HLO.out j (by simpa [Value.ownBlock] using h) h'
                  · have := HRW.out.lt j (by simpa [Value.ownBlock] using h)
                    simp at h'
                    omega
                · have := HV2.out.lt j hj2
                  simp at h
                  omega
              · have k1 : Keeps OL W0 w2 := (HKX.out.trans HKC.out (by simp)).trans hk5 (fun g hg => .inr (hoa g hg))
                exact k1.drew.trans HK3.out (fun g hg => HL1.out g (by simp [Value.ownBlock] at hg ⊢; exact hg.symm))
            case measure =>
              have hle : (r.eraseIdx I).length = I + (r.length - (I + 1)) := by rw [List.length_eraseIdx_of_lt hIl]; omega
              obtain ⟨VA, vc, hv, -⟩ := HV3.out.form
              rw [hv]
              simp only [sliceLen]
              omega
        · have hrn : r.length = 0 := by omega
          have hr0' : r = [] := List.eq_nil_of_length_eq_zero hrn
          subst hr0'
          have hout : out = pickE ps (evsP N L ds) := by
            have h1 := HPK.out
            rw [pickE_nil, List.append_nil, ← HQE.out, ← HHS.out] at h1
            exact h1
          have HOUT := hid hout
          clear hout
          go_wp2
          have hOLge : ∀ g ∈ OL, w1.heap.size ≤ g := fun g hg => HOL.out.1 g (by have := hg; rw [← HOO.out] at this; simpa using this)
          obtain ⟨a1, a2, a3, a4, a5⟩ := H.out.apart
          rw [← HP.out]
          refine ⟨.slice OA out.length oc, rfl, ?_, ⟨s, m, Fn, Fs, _, clock, HPE.out.keeps HKX.out (fun k hk => ?_), ?_, ?_⟩, ?_, fun k hk => ?_⟩
          · rw [← HOUT.out]
            refine HRO.out.evIn (fun k hk hx => ?_)
            have h1 := HO1.out k hk
            simp only [List.mem_cons, List.mem_append] at hx
            rcases hx with hx | hx | hx | hx | hx
            · omega
            · omega
            · have := H.out.net.flt k hx
              omega
            · have := H.out.slab.flt k hx
              omega
            · obtain ⟨y, hy, hye⟩ := List.mem_map.1 hx
              have := a5 y hy
              omega
          · have h1 := hOLge k hk
            refine ⟨by omega, fun hx => by have := H.out.net.flt k hx; omega, fun hx => by have := H.out.slab.flt k hx; omega, by omega, fun y hy => ?_⟩
            obtain ⟨z, hz, rfl⟩ := List.mem_map.1 hy
            have := a5 z hz
            simp only
            omega
          · rw [HDS.out]
            simp [toldP]
          · simp [List.map_map, Function.comp_def]
          · have k1 : Keeps (pb :: m :: (Fn ++ (Fs ++ es.map (·.1.p)))) w W0 := HWK.out.mono (by simp +contextual)
            exact k1.trans HKX.out (fun g hg => .inr (by have := hOLge g hg; omega))
          · have h1 := HO1.out k hk
            omega
end Go.Proofs.Ytkeffebcmajhmaa
