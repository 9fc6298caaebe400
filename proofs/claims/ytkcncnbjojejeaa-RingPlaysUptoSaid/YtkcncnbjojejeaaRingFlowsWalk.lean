/- The walk of RingFlows. -/
import Derived.Test.YtkcncnbjojejeaaRingFullWalk
import Derived.Test.YtkcncnbjojejeaaRingFindsWalk
import Derived.Test.YtkcncnbjojejeaaBase3
namespace Go.Proofs.Ytkcncnbjojejeaa
open Go.RowKit
theorem bytesV_one (q : List Int) : ∀ u ∈ bytesV q, u.oneCell' = true := by
  intro u hu
  unfold bytesV at hu
  obtain ⟨x, -, rfl⟩ := List.mem_map.1 hu
  rfl
set_option maxHeartbeats 1000000 in
theorem ringFlows_out (w : World) (size : Int) (A B : Option Addr) (la lb ca cb : Nat) (hg : size < 1 ∨ (1 ≤ size ∧ 300 < size) ∨ (1 ≤ size ∧ size ≤ 300 ∧ 6000 < la) ∨ (1 ≤ size ∧ size ≤ 300 ∧ la ≤ 6000 ∧ 200 < lb)) :
    Calls Try.prog 4 #[.int .i64 size, .slice A la ca, .slice B lb cb] w fun e w' => e = .returned (.bool true) ∧ Below w.heap.size w w' := by
  rcases hg with h | ⟨h0, h⟩ | ⟨h0, h1, h⟩ | ⟨h0, h1, h2, h⟩
  all_goals
    go_enter Try.func4, Try.ntmps4
    go_wp2_with (go_at_call 13; refine (known_any _).mono ?_; rintro e w5 ⟨rfl, hk5⟩)
    go_ret
    exact ⟨rfl, hk5.below (Nat.le_refl _) (by simp)⟩
set_option maxRecDepth 100000 in
set_option maxHeartbeats 2000000 in
theorem ringFlows_in (w : World) (S : Nat) (h1 : 1 ≤ S) (h2 : S ≤ 300) (A B : Option Addr) (ca cb : Nat) (b cuts : List Int) (hb : CellsIn w [] (.slice A b.length ca) (b.map (.int .u8))) (hc : CellsIn w [] (.slice B cuts.length cb) (cuts.map (.int .i64)))
    (hla : b.length ≤ 6000) (hlb : cuts.length ≤ 200) :
    Calls Try.prog 4 #[.int .i64 S, .slice A b.length ca, .slice B cuts.length cb] w fun e w' => e = .returned (.bool true) ∧ Below w.heap.size w w' := by
  obtain ⟨i0, hi0, hz0, hz1, hz2⟩ := info_parts byte_info
  have hca : b.length ≤ ca := by obtain ⟨A', c', hv, h3, -⟩ := hb.shape; injection hv with _ _ h4; subst h4; simpa using h3
  have HB := hid hb
  have HC := hid hc
  clear hb hc
  have c1 : ¬ (S : Int) < 1 := by omega
  have c2 : ¬ (300 : Int) < S := by omega
  have c3 : ¬ (6000 : Int) < b.length := by omega
  have c4 : ¬ (200 : Int) < cuts.length := by omega
  go_enter Try.func4, Try.ntmps4
  go_wp2_with fail
  refine (new_ok S _ h1 (by omega)).mono ?_
  rintro e w1 ⟨rfl, hr, hk⟩
  obtain ⟨x, hx⟩ : ∃ x, w.heap.size + 1 = x := ⟨_, rfl⟩
  obtain ⟨g, hg⟩ : ∃ g, w.heap.size = g := ⟨_, rfl⟩
  rw [hx, hg] at hr
  rw [hx]
  have hfx : w.heap.size ≤ x := by omega
  have hfg : w.heap.size ≤ g := by omega
  clear hx hg
  go_wp2_with fail
  go_loopw [9, 10, 11, 12, 13, 14] (fun out at' i _ _ _ wr => ∃ (k a f : Nat) (o q : List Int), k ≤ cuts.length ∧ i = .int .i64 k ∧ a ≤ b.length ∧ at' = .int .i64 a ∧ o ++ q = b.take a ∧ Row wr 5 1 out o.length (bytesV o) ∧
      (∀ j, out.ownBlock = some j → w.heap.size ≤ j ∧ j ≠ x ∧ j ≠ g) ∧ RingRep wr x g S f q ∧ Keeps [] w wr) (fun _ _ i _ _ _ _ => cuts.length - (intOf i).toNat)
  case atStart => exact ⟨0, 0, 0, [], [], Nat.zero_le _, rfl, Nat.zero_le _, rfl, rfl, Row.nil _ _ _, by simp [Value.ownBlock], hr, hk⟩
  case round =>
    obtain ⟨k, a, f, o, q, hk1, rfl, ha, rfl, hoq, hrow, hob, hrr, hkw⟩ := hrel
    have HOQ := hid hoq
    have HROW := hid hrow
    have HOB := hid hob
    clear hoq hrow hob
    by_cases hlt : k < cuts.length
    · obtain ⟨y, hy⟩ : ∃ y, cuts[k]? = some y := ⟨cuts[k], by simp [hlt]⟩
      obtain ⟨cb1, co, rfl, -, hcell⟩ := (HC.out.keeps hkw (by simp)).at_ (by simp; omega)
      have hcy := hcell k (.int .i64 y) (by simp [hy])
      clear hcell hy
      obtain ⟨K1, hK1, hK1b⟩ := and_mask y 63 (by omega)
      simp only [Int.cast_ofNat_Int] at hK1
      obtain ⟨m, hm⟩ : ∃ m, min (b.length - a) K1 = m := ⟨_, rfl⟩
      have hmin : (if (K1 : Int) < b.length - a then (K1 : Int) else b.length - a) = m := by split <;> omega
      have hma : a + m ≤ b.length := by omega
      have hkc : (k : Int) < cuts.length := by omega
      clear hm
      obtain ⟨R, hR⟩ : ∃ R, (b.drop a).take m = R := ⟨_, rfl⟩
      have HROW0 : Hid (CellsIn wr [x, g] (.slice (cutA A a ca 1) m (ca - a)) (bytesV R)) := by
        have h := ((CellsIn.old HB.out (G := [x, g]) (by simp; omega)).keeps hkw (by simp)).cut (lo := a) (hi := a + m) (by omega) hma
        rw [Nat.add_sub_cancel_left] at h
        refine hid ?_
        rw [← hR]
        simpa [bytesV] using h
      have hRl : R.length = m := by rw [← hR, List.length_take, List.length_drop]; omega
      have hRa : b.take (a + m) = b.take a ++ R := by rw [← hR, List.take_add]
      obtain ⟨n, hn⟩ : ∃ n, min m (S - q.length) = n := ⟨_, rfl⟩
      have hnm : n ≤ m := by omega
      have hqS : q.length ≤ S := hrr.2.2.2.2.1
      have HP : Hid (poured S q [(.slice (cutA A a ca 1) m (ca - a), R)] = q ++ R.take n) := by
        have hp := poured_snoc (S := S) (q := q) [] (.slice (cutA A a ca 1) m (ca - a), R)
        rw [poured_nil hqS] at hp
        refine hp.trans (congrArg (q ++ ·) (List.take_eq_take_iff.2 ?_))
        simp only
        omega
      have HOQ2 : Hid (o ++ (q ++ R.take n) = b.take (a + n)) := by
        rw [Hid, ← List.append_assoc, HOQ.out, ← hR, List.take_take, Nat.min_eq_left hnm, List.take_add]
      have HRl := hid hRl
      have HR := hid hR
      have HRa := hid hRa
      have hsl := fun wx => run_cut (P := Try.prog) wx 32 5 i0 1 Try.underlying32 hi0 hz1 A b.length ca a (a + m) (a : Int) ((a : Int) + m) rfl (by simp) .i64 .i64 (by omega) (by omega)
      simp only [Nat.add_sub_cancel_left] at hsl
      clear hn hR hRl hRa
      go_wp2_with fail
      refine (write_any x g S f q (q ++ R.take n) n _ [(.slice (cutA A a ca 1) m (ca - a), R)] _ ?_ ?_ ?_ HP.out ?_).mono ?_
      · exact hrr.keeps ((Keeps.refl [] wr).alloc _) (by simp) (by simp)
      · have h := CellsIn.newM wr [x, g] [.slice (cutA A a ca 1) m (ca - a)] 32 (0, 0) (by have := hrr.lt; simp; omega) (by simp)
        simpa using h
      · intro r hr0
        simp only [List.mem_cons, List.not_mem_nil, or_false] at hr0
        subst hr0
        exact HROW0.out.alloc _
      · have := HRl.out
        simp
        omega
      rintro e w2 ⟨rfl, hr2, hk2a⟩
      have hk2 : Keeps [x, g] wr w2 := ((Keeps.refl [x, g] wr).alloc _).trans hk2a (by simp)
      have hkw2 : Keeps [] w w2 := hkw.trans hk2 (by simp; omega)
      obtain ⟨cb2, co2, hcb2, -, hcell2⟩ := (HC.out.keeps hkw2 (by simp)).at_ (by simp; omega)
      injection hcb2 with hcb2
      injection hcb2 with e1 e2 _
      subst e1 e2
      have HCELL := hid hcell2
      clear hk2a hrr hcell2 hcy
      obtain ⟨y2, hy2⟩ : ∃ y, cuts[k]? = some y := ⟨cuts[k], by simp [hlt]⟩
      have hcy2 := HCELL.out k (.int .i64 y2) (by simp [hy2])
      clear hy2
      have i2 : (n : Int) ≤ m := by omega
      obtain ⟨q1, hq1⟩ : ∃ q1, q ++ R.take n = q1 := ⟨_, rfl⟩
      rw [hq1] at hr2 HOQ2
      clear hq1
      have hq1S : q1.length ≤ S := hr2.2.2.2.2.1
      go_wp2_with fail
      refine (peek_any x g S f q1 _ _ hr2).mono ?_
      rintro e w3 ⟨pv, rfl, hpv, hpf, hk3⟩
      obtain ⟨P, hP⟩ : ∃ P, clip (bits BinOp.and IntKind.i64 (y2 / 64) 63) q1.length = P := ⟨_, rfl⟩
      have hPl : P ≤ q1.length := by rw [← hP]; exact clip_le _ _
      rw [hP] at hpv
      have hpl : (q1.take P).length = P := by rw [List.length_take]; omega
      rw [hpl] at hpv
      clear hP
      have hr3 := hr2.keeps hk3 (by simp) (by simp)
      have hk3' : Keeps [x, g] wr w3 := hk2.trans hk3 (by simp)
      obtain ⟨PA, pc, rfl, hpc1, -, -, -⟩ := hpv.form
      have HPL := hid hpl
      have HPV := hid hpv
      clear hpl hpv
      have hcl : clip (P : Int) q1.length = P := by unfold clip; split <;> omega
      have hs := skip_any x g S f q1 P w3 hr3
      rw [hcl] at hs
      have HS := hid hs
      clear hs hcl
      go_wp2_with fail
      refine HS.out.mono ?_
      rintro e w4 ⟨rfl, ⟨f', hr4⟩, hk4⟩
      have hk4' : Keeps [x, g] wr w4 := hk3'.trans hk4 (by simp)
      have hkw4 : Keeps [] w w4 := hkw.trans hk4' (by simp; omega)
      have HR1 := hid (HROW.out.keeps hk4' (fun j hj => by have := HOB.out j hj; simp; omega))
      have HR2 := hid (Row.reads (HPV.out.keeps hk4 (fun j hj => by have := hpf j hj; have := hr2.lt; simp; omega)))
      have hol : o.length ≤ 6000 := by
        have h := congrArg List.length HOQ.out
        simp at h
        omega
      have HPF := hid hpf
      have HK3 := hid hk3
      clear hk2 hk3 hk3' hr2 hr3 hpf
      go_wp2_with (at_builtin; refine wpList_append_row _ rfl (.tmp 93) (.tmp 94) _ rfl 5 i0 _ 1 1 Try.underlying32 hi0 hz0 hz1 hz2 rfl (by omega) u9 o.length _ rfl HR1.out PA P pc _ rfl HR2.out (bytesV_one _) (by simp only [maxLen]; omega) (by omega) ?_; intro v5 w5 hv5 hk5 hob5)
      have hx5 : x ∉ u9.ownBlock.toList := fun hx => (HOB.out x (by simpa using hx)).2.1 rfl
      have hg5 : g ∉ u9.ownBlock.toList := fun hx => (HOB.out g (by simpa using hx)).2.2 rfl
      have hlt4 := hr4.lt
      go_roundw
      case rel =>
        refine ⟨k + 1, a + n, f', o ++ q1.take P, q1.drop P, by omega, by go_num, by omega, by go_num, ?_, ?_, ?_, hr4.keeps hk5 hx5 hg5, hkw4.trans hk5 (fun y hy => .inr (HOB.out y (by simpa using hy)).1)⟩
        · rw [← HOQ2.out, List.append_assoc, List.take_append_drop]
        · rw [List.length_append, HPL.out]
          simpa [bytesV] using hv5
        · intro j hj
          rcases hob5 j hj with h | h
          · exact HOB.out j h
          · have := hkw4.size
            omega
      case measure => simp [intOf] <;> omega
    · have hkl : k = cuts.length := by omega
      subst hkl
      have hqS : q.length ≤ S := hrr.2.2.2.2.1
      have hac : (a : Int) ≤ ca := by omega
      have hol : o.length ≤ 6000 := by
        have h := congrArg List.length HOQ.out
        simp at h
        omega
      have HBA : Hid (CellsIn wr u9.ownBlock.toList (.slice A a ca) (bytesV (o ++ q))) := by
        refine hid ?_
        have h := ((CellsIn.old HB.out (G := u9.ownBlock.toList) (fun y hy => (HOB.out y (by simpa using hy)).1)).keeps hkw (by simp)).take (k := a) ha
        rw [HOQ.out]
        simpa [bytesV] using h
      have hx5 : x ∉ u9.ownBlock.toList := fun hx => (HOB.out x (by simpa using hx)).2.1 rfl
      have hg5 : g ∉ u9.ownBlock.toList := fun hx => (HOB.out g (by simpa using hx)).2.2 rfl
      have HX5 := hid hx5
      clear hx5 hg5
      go_wp2_with fail
      go_region_held3 (fun _ => True) (first | trivial | exact trivial)
        (first
          | (go_at_call 23; refine (peek_all x g S f q _ _ (by exact hrr) (by omega)).mono ?_; rintro e w3 ⟨pv, rfl, hpv, hpf, hk3a⟩; have hk3 : Keeps [] wr w3 := (by first | exact hk3a.pre | exact hk3a.pre1 | exact hk3a); obtain ⟨PA, pc, rfl, hpc1, -, -, -⟩ := hpv.form; have HR2 := hid hpv.reads; have HR1 := hid (HROW.out.keeps hk3 (by simp)); have HK3 := hid (hkw.trans hk3 (by simp)); have HBA3 := hid (HBA.out.keeps hk3 (by simp)); have hsz3 := hk3.size; clear hpv hk3 hk3a)
          | (refine step_append_row _ (by rfl) _ _ _ (by rfl) 5 i0 _ 1 1 Try.underlying32 hi0 hz0 hz1 hz2 rfl (by omega) u9 o.length _ (by rfl) HR1.out PA q.length pc _ (by rfl) HR2.out (bytesV_one _) (by simp only [maxLen]; omega) (by omega) ?_; intro v5 w5 hv5 hk5 hob5; have HV5 : Hid (CellsIn w5 [] v5 (bytesV (o ++ q))) := hid (by have h := hv5.cellsIn (F := []) (by simp); simpa [bytesV] using h); have HK5 := hid (HK3.out.trans hk5 (fun y hy => .inr (HOB.out y (by simpa using hy)).1)); have HB5 := hid ((HBA3.out.keeps hk5 (fun y hy => .inl hy)).mono (G := []) (by simp)); clear hv5 hk5 hob5)
          | (go_at_call 24; refine (same_any _ _ (o ++ q) (o ++ q) _ (by exact HV5.out) (by exact HB5.out)).mono ?_; rintro e w6 ⟨rfl, hk6a⟩; rw [sameB_self]; have hk6 : Keeps [] w5 w6 := (by first | exact hk6a.pre | exact hk6a.pre1 | exact hk6a); have HK6 := hid (HK5.out.trans hk6 (by simp)); clear hk6 hk6a)
          | (go_at_call 13; refine (known_any _).mono ?_; rintro e w9 ⟨rfl, hk9a⟩; have hk9 : Keeps [] w6 w9 := (by first | exact hk9a.pre | exact hk9a.pre1 | exact hk9a)))
      all_goals
        go_wp2
        go_ret
        exact ⟨rfl, (HK6.out.trans hk9 (by simp)).below (Nat.le_refl _) (by simp)⟩
theorem ringFlows_walk (w : World) (size : Int) (_ : (Lit.int .i64 size).wf = true) (bv : Value) (b : List Int) (hb : CellsIn w [] bv (b.map (.int .u8))) (_ : ∀ n ∈ b, (Lit.int .u8 n).wf = true)
    (cv : Value) (c : List Int) (hc : CellsIn w [] cv (c.map (.int .i64))) (_ : ∀ n ∈ c, (Lit.int .i64 n).wf = true) :
    Calls Try.prog 4 #[.int .i64 size, bv, cv] w fun e w' => e = .returned (.bool true) ∧ Below w.heap.size w w' := by
  obtain ⟨A, ca, rfl, -, -⟩ := hb.shape
  obtain ⟨B, cb, rfl, -, -⟩ := hc.shape
  simp only [List.length_map] at hb hc ⊢
  by_cases hg : 1 ≤ size ∧ size ≤ 300 ∧ b.length ≤ 6000 ∧ c.length ≤ 200
  · obtain ⟨h1, h2, h3, h4⟩ := hg
    obtain ⟨S, rfl⟩ := Int.eq_ofNat_of_zero_le (by omega : 0 ≤ size)
    exact ringFlows_in w S (by omega) (by omega) A B ca cb b c hb hc h3 h4
  · exact ringFlows_out w size A B _ _ ca cb (by omega)
end Go.Proofs.Ytkcncnbjojejeaa
