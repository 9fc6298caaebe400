/- The walk of SlabPlays. -/
import Derived.Test.YtkeffebcmajhmaaSlabPut
import Derived.Test.YtkeffebcmajhmaaSlabFullWalk
import Derived.Deep.DeepCutAuto
import Derived.Deep.CutBlock
import Derived.Deep.DrawnRows
namespace Go.Proofs.Ytkeffebcmajhmaa
open Go.RowKit
set_option linter.unusedVariables false
set_option linter.unusedSimpArgs false
attribute [local go_sem ↓] Go.wp_at_zero Go.wp_at_succ
theorem step_build3 {P : Program} {ops : Array Oper} {o : Oper} {a : Act} {w : World} {K : Act → World → Prop} {Q : Exit → Act → World → Prop} {E : Prop} (hgd : o.guard = none) (t : TypeId) (len : Nat) (x0 x1 x2 : Operand) (ho : o.op = .buildSlice t len #[(0, x0), (1, x1), (2, x2)])
    (v0 v1 v2 : Value) (h0 : a.eval x0 = v0) (h1 : a.eval x1 = v1) (h2 : a.eval x2 = v2) (v : Value) (w' : World) (hrun : (Instr.buildSlice t len #[(0, v0), (1, v1), (2, v2)]).run P w = .ok v w') (h : K (a.put o.dst v) w') :
    if Region.wanted o (yielded ops a.tmps) = true then Oper.wp P o a w K Q else E := by
  have hw : Region.wanted o (yielded ops a.tmps) = true := by simp [Region.wanted, hgd]
  rw [if_pos hw]
  unfold Oper.wp execOp
  simp only [ho, Sem.run_bind, Sem.run_pure, Result.andThen_ok, List.map_toArray, List.map_cons, List.map_nil, h0, h1, h2, hrun]
  exact h
theorem build3 (i1 g1 i2 g2 i3 g3 : Int) (w : World) : (Instr.buildSlice 28 3 #[(0, .agg #[.int .i64 i1, .int .i64 g1]), (1, .agg #[.int .i64 i2, .int .i64 g2]), (2, .agg #[.int .i64 i3, .int .i64 g3])]).run Try.prog w = .ok (.slice (some ⟨w.heap.size, 0, none⟩) 3 3) (w.alloc (.cells #[.int .i64 i1, .int .i64 g1, .int .i64 i2, .int .i64 g2, .int .i64 i3, .int .i64 g3] 30)) := by
  kernel_rfl
set_option maxRecDepth 100000 in
set_option maxHeartbeats 16000000 in
theorem slabPlays_in (w : World) (lim : Int) (hS1 : 1 ≤ lim) (hS2 : lim ≤ 4096) (lv : Value) (l : List SAct) (hl : SActsIn w lv l) :
    Calls Try.prog 5 #[.int .i64 lim, lv] w fun e w' => e = .returned (.bool true) ∧ Below w.heap.size w w' := by
  obtain ⟨i1, hi1, hy0, hy1, hy2⟩ := info_parts handle_info
  have HL := hid hl
  obtain ⟨A, c, rfl, h1, h2⟩ := hl.shape
  clear hl
  go_enter Try.func5, Try.ntmps5
  go_wp2_with fail
  refine (snew_ok lim _ hS1 hS2).mono ?_
  rintro e w1 ⟨rfl, hs1, hk1⟩
  obtain ⟨s, hse⟩ : ∃ s, w.heap.size = s := ⟨_, rfl⟩
  rw [hse] at hs1
  rw [hse]
  have hsw : w.heap.size ≤ s := by omega
  clear hse
  go_wp2_with fail
  refine (rsnew_ok lim _ hS1 hS2).mono ?_
  rintro e w2 ⟨rfl, hx2, hk2⟩
  obtain ⟨x, hxe⟩ : ∃ x, w1.heap.size = x := ⟨_, rfl⟩
  rw [hxe] at hx2
  rw [hxe]
  have hst : Hid (SPB w (w2.alloc (.cells #[.int .i64 0, .int .i64 0] 30)) s x 0 [s] [x] lim [] 0 (.slice (some ⟨w2.heap.size, 0, none⟩) 1 1) [(0, 0)]) := by
    have z1 := hs1.flt s (by simp)
    have z2 := hk1.size
    have z3 := hk2.size
    have z4 := hx2.flt x (by simp)
    refine ⟨(hs1.keeps hk2 (by simp)).keeps ((Keeps.refl [] w2).alloc _) (by simp), hx2.keeps ((Keeps.refl [] w2).alloc _) (by simp), by simpa using hsw, by simp; omega, by simp; omega, by simp, by simp, by omega, by omega, ?_, ?_, by simp, by simp, (hk1.trans hk2 (by simp)).alloc _⟩
    · refine ⟨by simp [handlesV], .inr ⟨w2.heap.size, 0, 1, _, rfl, Blk.new w2 _ _, by simp, by simp [maxLen], by simp, by simp [handlesV]⟩⟩
    · intro j hj
      simp [Value.ownBlock] at hj
      subst hj
      refine ⟨by omega, by simp; omega, by simp; omega⟩
  have hxs : s ≠ x := by
    have z1 := hs1.flt s (by simp)
    omega
  clear hs1 hx2 hk1 hk2 hxe
  go_wp2_with fail
  go_loopw [9, 10, 11, 12, 13, 14, 15, 16, 17, 18, 19, 20, 21] (fun gv i _ _ _ _ _ _ _ _ _ _ _ wr => ∃ (k : Nat) (F G : List Nat) (L : List Slot) (n : Int) (hs : List (Int × Int)), k ≤ l.length ∧ k ≤ 150 ∧ i = .int .i64 k ∧ SPB w wr s x k F G lim L n gv hs) (fun _ i _ _ _ _ _ _ _ _ _ _ _ _ => l.length - (intOf i).toNat)
  case atStart => exact ⟨0, [s], [x], [], 0, [(0, 0)], Nat.zero_le _, by omega, rfl, hst.out⟩
  case round =>
    clear hst
    obtain ⟨k, F, G, L, n, hs, hk, hk150, rfl, hS⟩ := hrel
    have HST := hid hS
    clear hS
    by_cases hlt : k < l.length ∧ k < 150
    · obtain ⟨hl1, hl2⟩ := hlt
      obtain ⟨ac, ha⟩ : ∃ a, l[k]? = some a := ⟨l[k], by simp [hl1]⟩
      obtain ⟨s1, s2, s3, s4, s5, s6, s7, s8, s9, s10, s11, s12, s13, s14⟩ := HST.out
      obtain ⟨b, o, rfl, hc⟩ := HL.out.at_ (by omega)
      obtain ⟨c0, c1, c2, c3, c4⟩ := hc k ac ha
      have hbw : b < w.heap.size := World.block_lt_of_cell? w _ c0
      have c0 := cell_keep s14 (by simp) c0
      have c1 := cell_keep s14 (by simp) c1
      have c2 := cell_keep s14 (by simp) c2
      have c3 := cell_keep s14 (by simp) c3
      have c4 := cell_keep s14 (by simp) c4
      obtain ⟨kd, nn, kk, hi, hg⟩ := ac
      simp only at c0 c1 c2 c3 c4
      obtain ⟨m, hm⟩ : ∃ m, hs.length = m := ⟨_, rfl⟩
      have hm1 : 1 ≤ m := by omega
      have hm2 : m ≤ 151 := by omega
      obtain ⟨GA, gcap, rfl, -⟩ := s10.form
      obtain ⟨q1, hq1, -⟩ := and_mask kk 65535 (by omega)
      obtain ⟨q2, hq2, -⟩ := and_mask nn 65535 (by omega)
      obtain ⟨r1, hr1⟩ : ∃ r, q1 % m = r := ⟨_, rfl⟩
      obtain ⟨r2, hr2⟩ : ∃ r, q2 % m = r := ⟨_, rfl⟩
      have hr1m : r1 < m := by rw [← hr1]; exact Nat.mod_lt _ (by omega)
      have hr2m : r2 < m := by rw [← hr2]; exact Nat.mod_lt _ (by omega)
      have hmod1 : (bits BinOp.and IntKind.i64 kk 65535).tmod (m : Int) = (r1 : Int) := by
        have h1 : bits BinOp.and IntKind.i64 kk 65535 = (q1 : Int) := hq1
        rw [h1, ← hr1]
        exact (Int.ofNat_tmod q1 m).symm
      have hmod2 : (bits BinOp.and IntKind.i64 nn 65535).tmod (m : Int) = (r2 : Int) := by
        have h1 : bits BinOp.and IntKind.i64 nn 65535 = (q2 : Int) := hq2
        rw [h1, ← hr2]
        exact (Int.ofNat_tmod q2 m).symm
      obtain ⟨gb, go, hga, -, hgc⟩ := (Row.hsInK (F := []) s10 rfl (by simp)).at_ (by omega)
      subst hga
      obtain ⟨⟨i1', g1'⟩, hh1⟩ : ∃ h, hs[r1]? = some h := ⟨hs[r1]'(by omega), List.getElem?_eq_getElem (by omega)⟩
      obtain ⟨⟨i2', g2'⟩, hh2⟩ : ∃ h, hs[r2]? = some h := ⟨hs[r2]'(by omega), List.getElem?_eq_getElem (by omega)⟩
      obtain ⟨d0, d1⟩ := hgc r1 _ hh1
      obtain ⟨d2, d3⟩ := hgc r2 _ hh2
      simp only at d0 d1 d2 d3
      have hr1i : (r1 : Int) < m := by omega
      have hr2i : (r2 : Int) < m := by omega
      have hmi : (0 : Int) < m := by omega
      have hki : (k : Int) < l.length := by omega
      have HM := hid hm
      rw [hm]
      have n0 := fun o => alloc_cell d0 o
      have n1 := fun o => alloc_cell d1 o
      have n2 := fun o => alloc_cell d2 o
      have n3 := fun o => alloc_cell d3 o
      have m0 := fun o => alloc_cell c0 o
      have m1 := fun o => alloc_cell c1 o
      have m2 := fun o => alloc_cell c2 o
      have m3 := fun o => alloc_cell c3 o
      have m4 := fun o => alloc_cell c4 o
      clear hc ha hgc hh1 hh2 hq1 hq2 hr1 hr2 s1 s2 s3 s4 s5 s6 s7 s8 s9 s10 s11 s12 s13 hm
      go_upto_region 13 with (fail)
      have HBH : Hid (Blk ((wr.alloc (.cells #[.int .i64 i1', .int .i64 g1'] 30)).alloc (.cells #[.int .i64 i2', .int .i64 g2'] 30)) wr.heap.size 30 #[.int .i64 i1', .int .i64 g1']) := hid ((Blk.new wr _ _).alloc _)
      have HBO : Hid (Blk ((wr.alloc (.cells #[.int .i64 i1', .int .i64 g1'] 30)).alloc (.cells #[.int .i64 i2', .int .i64 g2'] 30)) (wr.heap.size + 1) 30 #[.int .i64 i2', .int .i64 g2']) := hid (Blk.newAt (by simp))
      have HS1 := hid (HST.out.keeps (((Keeps.refl [] wr).alloc (.cells #[.int .i64 i1', .int .i64 g1'] 30)).alloc (.cells #[.int .i64 i2', .int .i64 g2'] 30)))
      have a0 := alloc_cell (m0 (.cells #[.int .i64 i1', .int .i64 g1'] 30)) (.cells #[.int .i64 i2', .int .i64 g2'] 30)
      have a1 := alloc_cell (m1 (.cells #[.int .i64 i1', .int .i64 g1'] 30)) (.cells #[.int .i64 i2', .int .i64 g2'] 30)
      have a3 := alloc_cell (m3 (.cells #[.int .i64 i1', .int .i64 g1'] 30)) (.cells #[.int .i64 i2', .int .i64 g2'] 30)
      have a4 := alloc_cell (m4 (.cells #[.int .i64 i1', .int .i64 g1'] 30)) (.cells #[.int .i64 i2', .int .i64 g2'] 30)
      have hz1 : ((wr.alloc (.cells #[.int .i64 i1', .int .i64 g1'] 30)).alloc (.cells #[.int .i64 i2', .int .i64 g2'] 30)).heap.size = wr.heap.size + 2 := by simp
      obtain ⟨W1, hW1⟩ : ∃ W1, (wr.alloc (.cells #[.int .i64 i1', .int .i64 g1'] 30)).alloc (.cells #[.int .i64 i2', .int .i64 g2'] 30) = W1 := ⟨_, rfl⟩
      rw [hW1] at HBH HBO HS1 a0 a1 a3 a4 hz1 ⊢
      obtain ⟨hB, hhB⟩ : ∃ hB, wr.heap.size = hB := ⟨_, rfl⟩
      rw [hhB] at HBH HBO hz1 ⊢
      rw [HM.out] at HS1
      have hfl : (∀ j ∈ F, j < hB) ∧ (∀ j ∈ G, j < hB) ∧ (∀ j ∈ F, w.heap.size ≤ j) ∧ (∀ j ∈ G, w.heap.size ≤ j) ∧ gb < hB ∧ w.heap.size ≤ hB := by
        obtain ⟨s1, s2, s3, s4, s5, s6, s7, s8, s9, s10, s11, s12, s13, s14⟩ := HST.out
        rw [← hhB]
        exact ⟨s1.flt, s2.flt, s3, s4, World.block_lt_of_cell? wr _ d0, s14.size⟩
      have HFL := hid hfl
      have hz1' : hB + 2 ≤ W1.heap.size := by omega
      clear HST n0 n1 n2 n3 m0 m1 m2 m3 m4 c0 c1 c2 c3 c4 d0 d1 d2 d3 hW1 hhB s14 hr1i hr2i hr1m hr2m hmod1 hmod2 hfl hz1
      go_upto_block 2 with (fail)
      go_cut [9, 13, 14, 15, 16, 17] (fun s9 s13 _ _ _ _ wx => s13 = .bool true ∧ SCut w wx s x (k + 1) lim hB s9)
      case first =>
        have HBF : Hid (hB ∉ F ∧ hB ∉ G ∧ b ∉ F ∧ b ∉ G) := hid ⟨fun hx => by have := HFL.out.1 _ hx; omega, fun hx => by have := HFL.out.2.1 _ hx; omega, fun hx => by have := HFL.out.2.2.1 _ hx; omega, fun hx => by have := HFL.out.2.2.2.1 _ hx; omega⟩
        rcases (by omega : kd = 1 ∨ kd = 3 ∨ kd = 4 ∨ kd = 5 ∨ kd = 6 ∨ (kd ≠ 1 ∧ kd ≠ 3 ∧ kd ≠ 4 ∧ kd ≠ 5 ∧ kd ≠ 6)) with rfl | rfl | rfl | rfl | rfl | ⟨e1, e3, e4, e5, e6⟩
        · as_aux_lemma =>
          obtain ⟨bi, bg, be, L', n', hput, hrput, hg', hl', hn1, hn2⟩ := both_put HS1.out nn (by omega) hS2
          have HPUT := hid hput
          have HRPUT := hid hrput
          have HG' := hid hg'
          have hown : ∀ j, (Value.slice (some ⟨gb, go, none⟩) m gcap).ownBlock = some j → j ∉ F ∧ j ∉ G ∧ j < hB := by
            obtain ⟨s1, s2, s3, s4, s5, s6, s7, s8, s9, s10, s11, s12, s13, s14⟩ := HS1.out
            intro j hj
            have h1 := s11 j hj
            simp [Value.ownBlock] at hj
            subst hj
            exact ⟨h1.2.1, h1.2.2, HFL.out.2.2.2.2.1⟩
          have HOWN := hid hown
          have hhs : hs.length ≤ 151 := by have := HM.out; omega
          have HROW := hid HS1.out.2.2.2.2.2.2.2.2.2.1
          clear hput hrput hg' hown a3 a4
          go_wp2_with fail
          refine (HPUT.out _ (Keeps.refl _ _)).mono ?_
          rintro e w3 ⟨rfl, ⟨F', hs3, hl3⟩, hk3⟩
          have c1 := cell_keep hk3 HBF.out.2.2.1 a1
          have z3 := hk3.size
          have HS3 := hid hs3
          have HL3 := hid hl3
          have HK3 := hid hk3
          have HR3 := hid (HROW.out.keeps hk3 (fun j hj => (HOWN.out j hj).1))
          have c2 := fun o => alloc_cell c1 o
          clear hs3 hl3 hk3 HPUT a1 c1
          go_wp2_with fail
          refine (HRPUT.out w3 _ HK3.out ((Keeps.refl [] w3).alloc _)).mono ?_
          rintro e w4 ⟨rfl, ⟨G', hx4, hl4⟩, hk4⟩
          have z4 := hk4.size
          simp at z4
          have HX4 := hid hx4
          have HL4 := hid hl4
          have HK4 := hid hk4
          have HA4 : Hid (Blk w4 w3.heap.size 30 #[.int .i64 bi, .int .i64 bg]) := hid ((Blk.new w3 _ _).keeps hk4 (fun hx => by have := HFL.out.2.1 _ hx; omega))
          have HR4 := hid ((HR3.out.alloc (.cells #[.int .i64 bi, .int .i64 bg] 30)).keeps hk4 (fun j hj => (HOWN.out j hj).2.1))
          clear hx4 hl4 hk4 HRPUT c2
          go_wp2_with (at_builtin; refine wpList_append_row _ rfl (.tmp 108) (.tmp 110) _ rfl 30 i1 _ 2 16 Try.underlying28 hi1 hy0 hy1 hy2 rfl (by omega) (.slice (some ⟨gb, go, none⟩) m gcap) hs.length _ rfl ((HR4.out.alloc _).alloc _) (some ⟨w4.heap.size + 1, 0, none⟩) 1 1 [.int .i64 bi, .int .i64 bg] rfl (reads_blk2 (Blk.newAt (by simp))) (by simp [Value.oneCell']) (by simp only [maxLen]; omega) (by omega) ?_; intro v5 w5 hv5 hk5 ho5; obtain ⟨A5, q5, rfl, -⟩ := hv5.form; have ha5 := ((HA4.out.alloc (.cells #[.int .i64 bi, .int .i64 bg] 30)).alloc (.cells #[.int .i64 bi, .int .i64 bg] 30)).keeps hk5 (fun hx => by have := (HOWN.out _ (by simpa using hx)).2.2; omega); have hb5 := ((Blk.new w4 30 #[.int .i64 bi, .int .i64 bg]).alloc (.cells #[.int .i64 bi, .int .i64 bg] 30)).keeps hk5 (fun hx => by have := (HOWN.out _ (by simpa using hx)).2.2; omega); have p0 := ha5.cell 0; have p1 := ha5.cell 1; have p2 := hb5.cell 0; have p3 := hb5.cell 1; simp at p0 p1 p2 p3; have HV5 := hid hv5; have HK5 := hid hk5; have HO5 := hid ho5; clear hv5 hk5 ho5 ha5 hb5)
          have HDONE := hid (SPB.put (b := (bi, bg)) HS1.out HS3.out HK3.out HL3.out ((Keeps.refl [] w3).alloc _) HX4.out HK4.out HL4.out (((Keeps.refl [] w4).alloc _).alloc _) HV5.out HK5.out HO5.out HG'.out hl' hn1 hn2)
          have HBX : Hid (Blk w5 hB 30 #[.int .i64 i1', .int .i64 g1'] ∧ hB ∉ F' ∧ hB ∉ G') := by
            refine hid ⟨((((((HBH.out.keeps HK3.out HBF.out.1).alloc _).keeps HK4.out HBF.out.2.1).alloc _).alloc _).keeps HK5.out (fun hx => by have := (HOWN.out _ (by simpa using hx)).2.2; omega)), fun hx => ?_, fun hx => ?_⟩
            · rcases HL3.out _ hx with h | h
              · exact HBF.out.1 h
              · omega
            · rcases HL4.out _ hx with h | h
              · exact HBF.out.2.1 h
              · simp at h
                omega
          go_wp2_with fail
          go_meet
          case rel => exact ⟨rfl, F', G', L', n', _, i1', g1', HDONE.out, HBX.out⟩
        · as_aux_lemma =>
          have b0 := HBH.out.cell 0
          have b1 := HBH.out.cell 1
          simp at b0 b1
          have hset := fun W (hW : Keeps [] W1 W) => sset_any s F lim n L i1' g1' nn W (HS1.out.1.keeps hW (by simp))
          have hrset := fun Wq W (hWq : Keeps F W1 Wq) (hW : Keeps [] Wq W) => rsset_any x G lim n L i1' g1' nn W ((HS1.out.2.1.keeps hWq (fun j hj hx => HS1.out.2.2.2.2.1 j hx hj)).keeps hW (by simp))
          have hgen := gens_setR (B := k) i1' g1' nn HS1.out.2.2.2.2.2.1
          obtain ⟨L2, hL2⟩ : ∃ L2, (setR L i1' g1' nn).1 = L2 := ⟨_, rfl⟩
          obtain ⟨e2, he2⟩ : ∃ e2, (setR L i1' g1' nn).2 = e2 := ⟨_, rfl⟩
          rw [hL2, he2] at hset hrset
          rw [hL2] at hgen
          have HSET := hid hset
          have HRSET := hid hrset
          have HGEN := hid hgen
          clear hset hrset hgen hL2 he2 a3 a4
          go_wp2_with fail
          go_region_held3 (fun w' => w'.cell? ⟨hB, 0, none⟩ = some (.int .i64 i1') ∧ w'.cell? ⟨hB, 1, none⟩ = some (.int .i64 g1') ∧ w'.cell? ⟨b, o + k * 5 + 1, none⟩ = some (.int .i64 nn)) (first | (repeat (first | (with_reducible assumption) | (with_reducible refine ⟨?_, ?_⟩) | (with_reducible refine alloc_cell ?_ _) | (with_reducible refine drew_cell ?_) | (with_reducible refine drewN_cell ?_ _))))
            (first
              | (go_at_call 24; refine (HSET.out _ (by repeat (first | (with_reducible exact Keeps.refl _ _) | (with_reducible assumption) | (with_reducible refine Keeps.drewN ?_ _) | (with_reducible refine Keeps.drew ?_) | (with_reducible refine Keeps.alloc ?_ _)))).mono ?_; rintro e wq ⟨rfl, hq, hkq0⟩; have hkq : Keeps F W1 wq := (Keeps.trans (by repeat (first | (with_reducible exact Keeps.refl _ _) | (with_reducible assumption) | (with_reducible refine Keeps.drewN ?_ _) | (with_reducible refine Keeps.drew ?_) | (with_reducible refine Keeps.alloc ?_ _))) hkq0 (fun j hj => .inl hj)); have t0 := cell_keep hkq HBF.out.1 b0; have t1 := cell_keep hkq HBF.out.1 b1; have t2 := cell_keep hkq HBF.out.2.2.1 a1; have HQ := hid hq; clear hq hkq0)
              | (go_at_call 27; refine (HRSET.out wq _ hkq (by repeat (first | (with_reducible exact Keeps.refl _ _) | (with_reducible assumption) | (with_reducible refine Keeps.drewN ?_ _) | (with_reducible refine Keeps.drew ?_) | (with_reducible refine Keeps.alloc ?_ _)))).mono ?_; rintro e wx ⟨rfl, hx, hkx0⟩; have hkx : Keeps G wq wx := (Keeps.trans (by repeat (first | (with_reducible exact Keeps.refl _ _) | (with_reducible assumption) | (with_reducible refine Keeps.drewN ?_ _) | (with_reducible refine Keeps.drew ?_) | (with_reducible refine Keeps.alloc ?_ _))) hkx0 (fun j hj => .inl hj)); have u0 := cell_keep hkx HBF.out.2.1 t0; have u1 := cell_keep hkx HBF.out.2.1 t1; have u2 := cell_keep hkx HBF.out.2.2.2 t2; have HX := hid hx; clear hx hkx0)
              | fail)
          all_goals
            clear HSET HRSET
            have hl2 := HGEN.out.2
            have hl1' := HS1.out.2.2.2.2.2.2.1
            have HT := hid (HS1.out.turn HQ.out hkq HX.out hkx ((Keeps.refl [] wx).drewN 0) HGEN.out.1 (by omega) (by omega) (by omega))
            have HBX := hid ((HBH.out.keeps hkq HBF.out.1).keeps hkx HBF.out.2.1)
            clear hl2 hl1'
            go_wp2_with fail
            go_meet
            case rel => exact ⟨rfl, F, G, _, _, hs, i1', g1', HT.out.keeps ((Keeps.refl [] _).drewN 0), HBX.out, HBF.out.1, HBF.out.2.1⟩
        · as_aux_lemma =>
          have b0 := HBH.out.cell 0
          have b1 := HBH.out.cell 1
          simp at b0 b1
          have hn1 : -1099511627776 ≤ n ∧ n ≤ 1099511627776 := by
            obtain ⟨s1, s2, s3, s4, s5, s6, s7, s8, s9, -⟩ := HS1.out
            omega
          have hgen := gens_take (B := k) [(i1', g1')] (L, 0) HS1.out.2.2.2.2.2.1
          have hle := takeAll_le L [(i1', g1')]
          obtain ⟨T, hT⟩ : ∃ T, takeAll L [(i1', g1')] = T := ⟨_, rfl⟩
          have htake : ∀ W H0, Keeps [] W1 W → Blk W H0 30 #[.int .i64 i1', .int .i64 g1'] → W1.heap.size ≤ H0 → Calls Try.prog 21 #[.pointer (some ⟨s, 0, none⟩), .slice (some ⟨H0, 0, none⟩) 1 1] W fun e w' => e = .returned (.int .i64 T.2) ∧ SRep w' s F lim T.1 (n - T.2) ∧ Keeps F W w' := by
            intro W H0 hW hB' hH
            rw [← hT]
            exact stake_any s F lim n L _ [(i1', g1')] W (HS1.out.1.keeps hW (by simp)) (hs_new (hs := [(i1', g1')]) hB' (fun hx => by have := HFL.out.1 _ hx; omega) (by simp)) (by simp) hn1.1 hn1.2
          have hrtake : ∀ Wq W H0, Keeps F W1 Wq → Keeps [] Wq W → Blk W H0 30 #[.int .i64 i1', .int .i64 g1'] → W1.heap.size ≤ H0 → Calls Try.prog 28 #[.pointer (some ⟨x, 0, none⟩), .slice (some ⟨H0, 0, none⟩) 1 1] W fun e w' => e = .returned (.int .i64 T.2) ∧ RS w' x G lim T.1 (n - T.2) ∧ Keeps G W w' := by
            intro Wq W H0 hWq hW hB' hH
            rw [← hT]
            exact rstake_any x G lim n L _ [(i1', g1')] W ((HS1.out.2.1.keeps hWq (fun j hj hx => HS1.out.2.2.2.2.1 j hx hj)).keeps hW (by simp)) (hs_new (hs := [(i1', g1')]) hB' (fun hx => by have := HFL.out.2.1 _ hx; omega) (by simp)) (by simp) hn1.1 hn1.2
          rw [hT] at hle
          have hgen' : (∀ e ∈ T.1, 0 ≤ e.1 ∧ e.1 ≤ (k : Int)) ∧ T.1.length = L.length := by
            rw [← hT]
            exact hgen
          have HTAKE := hid htake
          have HRTAKE := hid hrtake
          have HGEN := hid hgen'
          have HLE := hid hle
          clear htake hrtake hgen hgen' hle hT hn1 a1 a3 a4
          go_wp2_with fail
          go_region_held3 (fun w' => w'.cell? ⟨hB, 0, none⟩ = some (.int .i64 i1') ∧ w'.cell? ⟨hB, 1, none⟩ = some (.int .i64 g1')) (first | (repeat (first | (with_reducible assumption) | (with_reducible refine ⟨?_, ?_⟩) | (with_reducible refine alloc_cell ?_ _) | (with_reducible refine drew_cell ?_) | (with_reducible refine drewN_cell ?_ _))))
            (first
              | (go_at_call 21; refine (HTAKE.out _ _ (by repeat (first | (with_reducible exact Keeps.refl _ _) | (with_reducible assumption) | (with_reducible refine Keeps.drewN ?_ _) | (with_reducible refine Keeps.drew ?_) | (with_reducible refine Keeps.alloc ?_ _))) (by repeat (first | (with_reducible refine Blk.drew ?_) | (with_reducible refine Blk.drewN ?_ _) | ((with_reducible refine Blk.newAt ?_); (first | (with_reducible rfl) | (simp; done))) | (with_reducible refine Blk.alloc ?_ _))) (by simp)).mono ?_; rintro e wq ⟨rfl, hq, hkq0⟩; have hkq : Keeps F W1 wq := (Keeps.trans (by repeat (first | (with_reducible exact Keeps.refl _ _) | (with_reducible assumption) | (with_reducible refine Keeps.drewN ?_ _) | (with_reducible refine Keeps.drew ?_) | (with_reducible refine Keeps.alloc ?_ _))) hkq0 (fun j hj => .inl hj)); have HBK := hid (fun (j : Nat) (cs : Array Value) (hB' : Blk _ j 30 cs) (hG' : j ∉ F) => hB'.keeps hkq0 hG'); have t0 := cell_keep hkq HBF.out.1 b0; have t1 := cell_keep hkq HBF.out.1 b1; have HQ := hid hq; clear hq hkq0)
              | (go_at_call 28; refine (HRTAKE.out wq _ _ hkq (by repeat (first | (with_reducible exact Keeps.refl _ _) | (with_reducible assumption) | (with_reducible refine Keeps.drewN ?_ _) | (with_reducible refine Keeps.drew ?_) | (with_reducible refine Keeps.alloc ?_ _))) (by repeat (first | (with_reducible refine Blk.drew ?_) | (with_reducible refine Blk.drewN ?_ _) | (with_reducible refine HBK.out _ _ ?_ (fun hx => by have h1 := HFL.out.1 _ hx; first | omega | (simp at h1; omega))) | ((with_reducible refine Blk.newAt ?_); (first | (with_reducible rfl) | (simp; done))) | (with_reducible refine Blk.alloc ?_ _))) (by have h1 := hkq.size; first | omega | (simp; omega))).mono ?_; rintro e wx ⟨rfl, hx, hkx0⟩; have hkx : Keeps G wq wx := (Keeps.trans (by repeat (first | (with_reducible exact Keeps.refl _ _) | (with_reducible assumption) | (with_reducible refine Keeps.drewN ?_ _) | (with_reducible refine Keeps.drew ?_) | (with_reducible refine Keeps.alloc ?_ _))) hkx0 (fun j hj => .inl hj)); have u0 := cell_keep hkx HBF.out.2.1 t0; have u1 := cell_keep hkx HBF.out.2.1 t1; have HX := hid hx; clear hx hkx0)
              | fail)
          all_goals
            clear HTAKE HRTAKE HBK
            have HT : Hid (SPB w wx s x (k + 1) F G lim T.1 (n - T.2) (.slice (some ⟨gb, go, none⟩) m gcap) hs) := by
              have hl2 := HGEN.out.2
              have hl1' := HS1.out.2.2.2.2.2.2.1
              have hle := HLE.out
              simp at hle
              exact hid (HS1.out.turn HQ.out hkq HX.out hkx ((Keeps.refl [] wx).drewN 0) HGEN.out.1 (by omega) (by omega) (by omega))
            have HBX := hid ((HBH.out.keeps hkq HBF.out.1).keeps hkx HBF.out.2.1)
            go_wp2_with fail
            go_meet
            case rel => exact ⟨rfl, F, G, _, _, hs, i1', g1', HT.out.keeps ((Keeps.refl [] _).drewN 0), HBX.out, HBF.out.1, HBF.out.2.1⟩
        · as_aux_lemma =>
          have b0 := HBH.out.cell 0
          have b1 := HBH.out.cell 1
          simp at b0 b1
          have b2 := HBO.out.cell 0
          have b3 := HBO.out.cell 1
          simp at b2 b3
          have HOF : Hid (hB + 1 ∉ F ∧ hB + 1 ∉ G) := hid ⟨fun hx => by have := HFL.out.1 _ hx; omega, fun hx => by have := HFL.out.2.1 _ hx; omega⟩
          have hn1 : -1099511627776 ≤ n ∧ n ≤ 1099511627776 := by
            obtain ⟨s1, s2, s3, s4, s5, s6, s7, s8, s9, -⟩ := HS1.out
            omega
          have hgen := gens_take (B := k) [(i1', g1'), (i2', g2'), (i1', g1')] (L, 0) HS1.out.2.2.2.2.2.1
          have hle := takeAll_le L [(i1', g1'), (i2', g2'), (i1', g1')]
          obtain ⟨T, hT⟩ : ∃ T, takeAll L [(i1', g1'), (i2', g2'), (i1', g1')] = T := ⟨_, rfl⟩
          have htake : ∀ W H0, Keeps [] W1 W → Blk W H0 30 #[.int .i64 i1', .int .i64 g1', .int .i64 i2', .int .i64 g2', .int .i64 i1', .int .i64 g1'] → W1.heap.size ≤ H0 → Calls Try.prog 21 #[.pointer (some ⟨s, 0, none⟩), .slice (some ⟨H0, 0, none⟩) 3 3] W fun e w' => e = .returned (.int .i64 T.2) ∧ SRep w' s F lim T.1 (n - T.2) ∧ Keeps F W w' := by
            intro W H0 hW hB' hH
            rw [← hT]
            exact stake_any s F lim n L _ [(i1', g1'), (i2', g2'), (i1', g1')] W (HS1.out.1.keeps hW (by simp)) (hs_new (hs := [(i1', g1'), (i2', g2'), (i1', g1')]) hB' (fun hx => by have := HFL.out.1 _ hx; omega) (by simp)) (by simp) hn1.1 hn1.2
          have hrtake : ∀ Wq W H0, Keeps F W1 Wq → Keeps [] Wq W → Blk W H0 30 #[.int .i64 i1', .int .i64 g1', .int .i64 i2', .int .i64 g2', .int .i64 i1', .int .i64 g1'] → W1.heap.size ≤ H0 → Calls Try.prog 28 #[.pointer (some ⟨x, 0, none⟩), .slice (some ⟨H0, 0, none⟩) 3 3] W fun e w' => e = .returned (.int .i64 T.2) ∧ RS w' x G lim T.1 (n - T.2) ∧ Keeps G W w' := by
            intro Wq W H0 hWq hW hB' hH
            rw [← hT]
            exact rstake_any x G lim n L _ [(i1', g1'), (i2', g2'), (i1', g1')] W ((HS1.out.2.1.keeps hWq (fun j hj hx => HS1.out.2.2.2.2.1 j hx hj)).keeps hW (by simp)) (hs_new (hs := [(i1', g1'), (i2', g2'), (i1', g1')]) hB' (fun hx => by have := HFL.out.2.1 _ hx; omega) (by simp)) (by simp) hn1.1 hn1.2
          rw [hT] at hle
          have hgen' : (∀ e ∈ T.1, 0 ≤ e.1 ∧ e.1 ≤ (k : Int)) ∧ T.1.length = L.length := by
            rw [← hT]
            exact hgen
          have HTAKE := hid htake
          have HRTAKE := hid hrtake
          have HGEN := hid hgen'
          have HLE := hid hle
          clear htake hrtake hgen hgen' hle hT hn1 a1 a3 a4
          obtain ⟨S, hSe⟩ : ∃ S : World → Prop, ∀ w', S w' ↔ (w'.cell? ⟨hB, 0, none⟩ = some (.int .i64 i1') ∧ w'.cell? ⟨hB, 1, none⟩ = some (.int .i64 g1') ∧ w'.cell? ⟨hB + 1, 0, none⟩ = some (.int .i64 i2') ∧ w'.cell? ⟨hB + 1, 1, none⟩ = some (.int .i64 g2')) := ⟨_, fun _ => Iff.rfl⟩
          have hSw : S W1.drew := (hSe _).2 ⟨b0, b1, b2, b3⟩
          have hHF : ∀ j, W1.heap.size ≤ j → j ∉ F ∧ j ∉ G := fun j hj => ⟨fun hx => by have := HFL.out.1 _ hx; omega, fun hx => by have := HFL.out.2.1 _ hx; omega⟩
          have HHF := hid hHF
          clear hHF
          go_wp2_with fail
          refine wp_region_held_drew (S := S) (by kernel_rfl) hSw (fun hHeld => ?_)
          refine wpAnyH_take (i := 0) (v := ?_) rfl (by kernel_rfl) (by kernel_rfl) (by kernel_rfl) (fun _ _ _ h => h) ?_ (by assumption) ?_
          rotate_left 1
          · (apply Or.inl; constructor; rfl; intro W hSw; obtain ⟨s1, s2, s3, s4⟩ := (hSe W).1 hSw; go_simp; try (with_reducible rfl))
          try simp only [Act.put, List.getElem_toArray, List.getElem_cons_succ, List.getElem_cons_zero, List.setIfInBounds_toArray, List.set_cons_zero, List.set_cons_succ]
          refine wpAnyH_take (i := 1) (v := ?_) rfl (by kernel_rfl) (by kernel_rfl) (by kernel_rfl) (fun _ _ _ h => h) ?_ (by assumption) ?_
          rotate_left 1
          · (apply Or.inl; constructor; rfl; intro W hSw; obtain ⟨s1, s2, s3, s4⟩ := (hSe W).1 hSw; go_simp; try (with_reducible rfl))
          try simp only [Act.put, List.getElem_toArray, List.getElem_cons_succ, List.getElem_cons_zero, List.setIfInBounds_toArray, List.set_cons_zero, List.set_cons_succ]
          refine wpAnyH_take (i := 2) (v := ?_) rfl (by kernel_rfl) (by kernel_rfl) (by kernel_rfl) (fun _ _ _ h => h) ?_ (by assumption) ?_
          rotate_left 1
          · (apply Or.inl; constructor; rfl; intro W hSw; obtain ⟨s1, s2, s3, s4⟩ := (hSe W).1 hSw; go_simp; try (with_reducible rfl))
          try simp only [Act.put, List.getElem_toArray, List.getElem_cons_succ, List.getElem_cons_zero, List.setIfInBounds_toArray, List.set_cons_zero, List.set_cons_succ]
          refine wpAnyH_take (i := 3) (v := ?_) rfl (by kernel_rfl) (by kernel_rfl) (by kernel_rfl) (fun _ _ _ h => h) ?_ (by assumption) ?_
          rotate_left 1
          · (apply Or.inl; constructor; rfl; intro W hSw; obtain ⟨s1, s2, s3, s4⟩ := (hSe W).1 hSw; go_simp; try (with_reducible rfl))
          try simp only [Act.put, List.getElem_toArray, List.getElem_cons_succ, List.getElem_cons_zero, List.setIfInBounds_toArray, List.set_cons_zero, List.set_cons_succ]
          refine wpAnyH_take (i := 6) (v := ?_) rfl (by kernel_rfl) (by kernel_rfl) (by kernel_rfl) (fun _ _ _ h => h) ?_ (by assumption) ?_
          rotate_left 1
          · (apply Or.inl; constructor; rfl; intro W hSw; obtain ⟨s1, s2, s3, s4⟩ := (hSe W).1 hSw; go_simp; try (with_reducible rfl))
          try simp only [Act.put, List.getElem_toArray, List.getElem_cons_succ, List.getElem_cons_zero, List.setIfInBounds_toArray, List.set_cons_zero, List.set_cons_succ]
          refine wpAnyH_take (i := 7) (v := ?_) rfl (by kernel_rfl) (by kernel_rfl) (by kernel_rfl) (fun _ _ _ h => h) ?_ (by assumption) ?_
          rotate_left 1
          · (apply Or.inl; constructor; rfl; intro W hSw; obtain ⟨s1, s2, s3, s4⟩ := (hSe W).1 hSw; go_simp; try (with_reducible rfl))
          try simp only [Act.put, List.getElem_toArray, List.getElem_cons_succ, List.getElem_cons_zero, List.setIfInBounds_toArray, List.set_cons_zero, List.set_cons_succ]
          refine wpAnyH_take (i := 8) (v := ?_) rfl (by kernel_rfl) (by kernel_rfl) (by kernel_rfl) (fun _ _ _ h => h) ?_ (by assumption) ?_
          rotate_left 1
          · (apply Or.inl; constructor; rfl; intro W hSw; obtain ⟨s1, s2, s3, s4⟩ := (hSe W).1 hSw; go_simp; try (with_reducible rfl))
          try simp only [Act.put, List.getElem_toArray, List.getElem_cons_succ, List.getElem_cons_zero, List.setIfInBounds_toArray, List.set_cons_zero, List.set_cons_succ]
          refine wpAnyH_take (i := 9) (v := ?_) rfl (by kernel_rfl) (by kernel_rfl) (by kernel_rfl) (fun _ _ _ h => h) ?_ (by assumption) ?_
          rotate_left 1
          · (apply Or.inl; constructor; rfl; intro W hSw; obtain ⟨s1, s2, s3, s4⟩ := (hSe W).1 hSw; go_simp; try (with_reducible rfl))
          try simp only [Act.put, List.getElem_toArray, List.getElem_cons_succ, List.getElem_cons_zero, List.setIfInBounds_toArray, List.set_cons_zero, List.set_cons_succ]
          refine wpAnyH_ready (rs := [4, 10]) (by kernel_rfl) (by simp) ?_
          refine AllReadyH.cons rfl (fun K hK => ?_) (AllReadyH.cons rfl (fun K hK => ?_) AllReadyH.nil)
          · refine step_build3 rfl 28 3 _ _ _ rfl _ _ _ rfl rfl rfl _ _ (build3 i1' g1' i2' g2' i1' g1' _) ?_
            refine hK.out _ _ ((hSe _).2 ⟨alloc_cell b0 _, alloc_cell b1 _, alloc_cell b2 _, alloc_cell b3 _⟩) (fun hHeld => ?_)
            clear hK K
            try simp only [Act.put, List.getElem_toArray, List.getElem_cons_succ, List.getElem_cons_zero, List.setIfInBounds_toArray, List.set_cons_zero, List.set_cons_succ]
            refine wpAnyH_ready (rs := [5, 10]) (by kernel_rfl) (by simp) ?_
            refine AllReadyH.cons rfl (fun K hK => ?_) (AllReadyH.cons rfl (fun K hK => ?_) AllReadyH.nil)
            ·
              go_simp
              refine (HTAKE.out _ W1.heap.size ((Keeps.refl [] W1).drew.alloc _) (Blk.new W1.drew _ _) (by omega)).mono ?_
              rintro e wq ⟨rfl, hq, hkq0⟩
              have hkq : Keeps F W1 wq := Keeps.trans (Keeps.mono (G := F) ((Keeps.refl [] W1).drew.alloc _) (by simp)) hkq0 (fun j hj => .inl hj)
              have t0 := cell_keep hkq HBF.out.1 b0
              have t1 := cell_keep hkq HBF.out.1 b1
              have t2 := cell_keep hkq HOF.out.1 b2
              have t3 := cell_keep hkq HOF.out.1 b3
              have zq := hkq0.size
              have HBK := hid (fun (j : Nat) (cs : Array Value) (hB' : Blk _ j 30 cs) (hG' : j ∉ F) => hB'.keeps hkq0 hG')
              have HQ := hid hq
              clear hq hkq0
              refine hK.out _ _ ((hSe _).2 ⟨t0, t1, t2, t3⟩) (fun hHeld => ?_)
              clear hK K
              try simp only [Act.put, List.getElem_toArray, List.getElem_cons_succ, List.getElem_cons_zero, List.setIfInBounds_toArray, List.set_cons_zero, List.set_cons_succ]
              refine wpAnyH_ready (rs := [10]) (by kernel_rfl) (by simp) ?_
              refine AllReadyH.cons rfl (fun K hK => ?_) AllReadyH.nil
              refine step_build3 rfl 28 3 _ _ _ rfl _ _ _ rfl rfl rfl _ _ (build3 i1' g1' i2' g2' i1' g1' _) ?_
              refine hK.out _ _ ((hSe _).2 ⟨alloc_cell t0 _, alloc_cell t1 _, alloc_cell t2 _, alloc_cell t3 _⟩) (fun hHeld => ?_)
              clear hK K
              try simp only [Act.put, List.getElem_toArray, List.getElem_cons_succ, List.getElem_cons_zero, List.setIfInBounds_toArray, List.set_cons_zero, List.set_cons_succ]
              refine wpAnyH_ready (rs := [11]) (by kernel_rfl) (by simp) ?_
              refine AllReadyH.cons rfl (fun K hK => ?_) AllReadyH.nil
              go_simp
              refine (HRTAKE.out wq _ wq.heap.size hkq ((Keeps.refl [] wq).alloc _) (Blk.new wq _ _) (by simp at zq; omega)).mono ?_
              rintro e wx ⟨rfl, hx, hkx0⟩
              have hkx : Keeps G wq wx := Keeps.trans (Keeps.mono (G := G) ((Keeps.refl [] wq).alloc _) (by simp)) hkx0 (fun j hj => .inl hj)
              have u0 := cell_keep hkx HBF.out.2.1 t0
              have u1 := cell_keep hkx HBF.out.2.1 t1
              have u2 := cell_keep hkx HOF.out.2 t2
              have u3 := cell_keep hkx HOF.out.2 t3
              have HX := hid hx
              clear hx hkx0
              refine hK.out _ _ ((hSe _).2 ⟨u0, u1, u2, u3⟩) (fun hHeld => ?_)
              clear hK K
              try simp only [Act.put, List.getElem_toArray, List.getElem_cons_succ, List.getElem_cons_zero, List.setIfInBounds_toArray, List.set_cons_zero, List.set_cons_succ]
              refine wpAnyH_take (i := 12) (v := ?_) rfl (by kernel_rfl) (by kernel_rfl) (by kernel_rfl) (fun _ _ _ h => h) ?_ (by assumption) ?_
              rotate_left 1
              · (apply Or.inl; constructor; rfl; intro W hSw; obtain ⟨s1, s2, s3, s4⟩ := (hSe W).1 hSw; go_simp; try (with_reducible rfl))
              try simp only [Act.put, List.getElem_toArray, List.getElem_cons_succ, List.getElem_cons_zero, List.setIfInBounds_toArray, List.set_cons_zero, List.set_cons_succ]
              refine wpAnyH_take (i := 13) (v := ?_) rfl (by kernel_rfl) (by kernel_rfl) (by kernel_rfl) (fun _ _ _ h => h) ?_ (by assumption) ?_
              rotate_left 1
              · (apply Or.inl; constructor; rfl; intro W hSw; obtain ⟨s1, s2, s3, s4⟩ := (hSe W).1 hSw; go_simp; try (with_reducible rfl))
              try simp only [Act.put, List.getElem_toArray, List.getElem_cons_succ, List.getElem_cons_zero, List.setIfInBounds_toArray, List.set_cons_zero, List.set_cons_succ]
              refine wpAnyH_done (by kernel_rfl) ?_ _
              clear HTAKE HRTAKE HBK
              have HT : Hid (SPB w wx s x (k + 1) F G lim T.1 (n - T.2) (.slice (some ⟨gb, go, none⟩) m gcap) hs) := by
                have hl2 := HGEN.out.2
                have hl1' := HS1.out.2.2.2.2.2.2.1
                have hle := HLE.out
                simp at hle
                exact hid (HS1.out.turn HQ.out hkq HX.out hkx ((Keeps.refl [] wx).drewN 0) HGEN.out.1 (by omega) (by omega) (by omega))
              have HBX := hid ((HBH.out.keeps hkq HBF.out.1).keeps hkx HBF.out.2.1)
              go_wp2_with fail
              go_meet
              case rel => exact ⟨rfl, F, G, _, _, hs, i1', g1', HT.out.keeps ((Keeps.refl [] _).drewN 0), HBX.out, HBF.out.1, HBF.out.2.1⟩
            · refine step_build3 rfl 28 3 _ _ _ rfl _ _ _ rfl rfl rfl _ _ (build3 i1' g1' i2' g2' i1' g1' _) ?_
              refine hK.out _ _ ((hSe _).2 ⟨alloc_cell (alloc_cell b0 _) _, alloc_cell (alloc_cell b1 _) _, alloc_cell (alloc_cell b2 _) _, alloc_cell (alloc_cell b3 _) _⟩) (fun hHeld => ?_)
              clear hK K
              try simp only [Act.put, List.getElem_toArray, List.getElem_cons_succ, List.getElem_cons_zero, List.setIfInBounds_toArray, List.set_cons_zero, List.set_cons_succ]
              refine wpAnyH_ready (rs := [5]) (by kernel_rfl) (by simp) ?_
              refine AllReadyH.cons rfl (fun K hK => ?_) AllReadyH.nil
              go_simp
              refine (HTAKE.out _ W1.heap.size (((Keeps.refl [] W1).drew.alloc _).alloc _) ((Blk.new W1.drew _ _).alloc _) (by omega)).mono ?_
              rintro e wq ⟨rfl, hq, hkq0⟩
              have hkq : Keeps F W1 wq := Keeps.trans (Keeps.mono (G := F) (((Keeps.refl [] W1).drew.alloc _).alloc _) (by simp)) hkq0 (fun j hj => .inl hj)
              have t0 := cell_keep hkq HBF.out.1 b0
              have t1 := cell_keep hkq HBF.out.1 b1
              have t2 := cell_keep hkq HOF.out.1 b2
              have t3 := cell_keep hkq HOF.out.1 b3
              have zq := hkq0.size
              have HBK := hid (fun (j : Nat) (cs : Array Value) (hB' : Blk _ j 30 cs) (hG' : j ∉ F) => hB'.keeps hkq0 hG')
              have HQ := hid hq
              clear hq hkq0
              refine hK.out _ _ ((hSe _).2 ⟨t0, t1, t2, t3⟩) (fun hHeld => ?_)
              clear hK K
              try simp only [Act.put, List.getElem_toArray, List.getElem_cons_succ, List.getElem_cons_zero, List.setIfInBounds_toArray, List.set_cons_zero, List.set_cons_succ]
              refine wpAnyH_ready (rs := [11]) (by kernel_rfl) (by simp) ?_
              refine AllReadyH.cons rfl (fun K hK => ?_) AllReadyH.nil
              go_simp
              refine (HRTAKE.out wq _ (W1.heap.size + 1) hkq (Keeps.refl [] wq) (HBK.out _ _ (Blk.newAt (by simp)) (HHF.out _ (by omega)).1) (by omega)).mono ?_
              rintro e wx ⟨rfl, hx, hkx0⟩
              have hkx : Keeps G wq wx := Keeps.trans (Keeps.mono (G := G) (Keeps.refl [] wq) (by simp)) hkx0 (fun j hj => .inl hj)
              have u0 := cell_keep hkx HBF.out.2.1 t0
              have u1 := cell_keep hkx HBF.out.2.1 t1
              have u2 := cell_keep hkx HOF.out.2 t2
              have u3 := cell_keep hkx HOF.out.2 t3
              have HX := hid hx
              clear hx hkx0
              refine hK.out _ _ ((hSe _).2 ⟨u0, u1, u2, u3⟩) (fun hHeld => ?_)
              clear hK K
              try simp only [Act.put, List.getElem_toArray, List.getElem_cons_succ, List.getElem_cons_zero, List.setIfInBounds_toArray, List.set_cons_zero, List.set_cons_succ]
              refine wpAnyH_take (i := 12) (v := ?_) rfl (by kernel_rfl) (by kernel_rfl) (by kernel_rfl) (fun _ _ _ h => h) ?_ (by assumption) ?_
              rotate_left 1
              · (apply Or.inl; constructor; rfl; intro W hSw; obtain ⟨s1, s2, s3, s4⟩ := (hSe W).1 hSw; go_simp; try (with_reducible rfl))
              try simp only [Act.put, List.getElem_toArray, List.getElem_cons_succ, List.getElem_cons_zero, List.setIfInBounds_toArray, List.set_cons_zero, List.set_cons_succ]
              refine wpAnyH_take (i := 13) (v := ?_) rfl (by kernel_rfl) (by kernel_rfl) (by kernel_rfl) (fun _ _ _ h => h) ?_ (by assumption) ?_
              rotate_left 1
              · (apply Or.inl; constructor; rfl; intro W hSw; obtain ⟨s1, s2, s3, s4⟩ := (hSe W).1 hSw; go_simp; try (with_reducible rfl))
              try simp only [Act.put, List.getElem_toArray, List.getElem_cons_succ, List.getElem_cons_zero, List.setIfInBounds_toArray, List.set_cons_zero, List.set_cons_succ]
              refine wpAnyH_done (by kernel_rfl) ?_ _
              clear HTAKE HRTAKE HBK
              have HT : Hid (SPB w wx s x (k + 1) F G lim T.1 (n - T.2) (.slice (some ⟨gb, go, none⟩) m gcap) hs) := by
                have hl2 := HGEN.out.2
                have hl1' := HS1.out.2.2.2.2.2.2.1
                have hle := HLE.out
                simp at hle
                exact hid (HS1.out.turn HQ.out hkq HX.out hkx ((Keeps.refl [] wx).drewN 0) HGEN.out.1 (by omega) (by omega) (by omega))
              have HBX := hid ((HBH.out.keeps hkq HBF.out.1).keeps hkx HBF.out.2.1)
              go_wp2_with fail
              go_meet
              case rel => exact ⟨rfl, F, G, _, _, hs, i1', g1', HT.out.keeps ((Keeps.refl [] _).drewN 0), HBX.out, HBF.out.1, HBF.out.2.1⟩
          · refine step_build3 rfl 28 3 _ _ _ rfl _ _ _ rfl rfl rfl _ _ (build3 i1' g1' i2' g2' i1' g1' _) ?_
            refine hK.out _ _ ((hSe _).2 ⟨alloc_cell b0 _, alloc_cell b1 _, alloc_cell b2 _, alloc_cell b3 _⟩) (fun hHeld => ?_)
            clear hK K
            try simp only [Act.put, List.getElem_toArray, List.getElem_cons_succ, List.getElem_cons_zero, List.setIfInBounds_toArray, List.set_cons_zero, List.set_cons_succ]
            refine wpAnyH_ready (rs := [4]) (by kernel_rfl) (by simp) ?_
            refine AllReadyH.cons rfl (fun K hK => ?_) AllReadyH.nil
            refine step_build3 rfl 28 3 _ _ _ rfl _ _ _ rfl rfl rfl _ _ (build3 i1' g1' i2' g2' i1' g1' _) ?_
            refine hK.out _ _ ((hSe _).2 ⟨alloc_cell (alloc_cell b0 _) _, alloc_cell (alloc_cell b1 _) _, alloc_cell (alloc_cell b2 _) _, alloc_cell (alloc_cell b3 _) _⟩) (fun hHeld => ?_)
            clear hK K
            try simp only [Act.put, List.getElem_toArray, List.getElem_cons_succ, List.getElem_cons_zero, List.setIfInBounds_toArray, List.set_cons_zero, List.set_cons_succ]
            refine wpAnyH_ready (rs := [5]) (by kernel_rfl) (by simp) ?_
            refine AllReadyH.cons rfl (fun K hK => ?_) AllReadyH.nil
            go_simp
            refine (HTAKE.out _ (W1.heap.size + 1) (((Keeps.refl [] W1).drew.alloc _).alloc _) (Blk.newAt (by simp)) (by omega)).mono ?_
            rintro e wq ⟨rfl, hq, hkq0⟩
            have hkq : Keeps F W1 wq := Keeps.trans (Keeps.mono (G := F) (((Keeps.refl [] W1).drew.alloc _).alloc _) (by simp)) hkq0 (fun j hj => .inl hj)
            have t0 := cell_keep hkq HBF.out.1 b0
            have t1 := cell_keep hkq HBF.out.1 b1
            have t2 := cell_keep hkq HOF.out.1 b2
            have t3 := cell_keep hkq HOF.out.1 b3
            have zq := hkq0.size
            have HBK := hid (fun (j : Nat) (cs : Array Value) (hB' : Blk _ j 30 cs) (hG' : j ∉ F) => hB'.keeps hkq0 hG')
            have HQ := hid hq
            clear hq hkq0
            refine hK.out _ _ ((hSe _).2 ⟨t0, t1, t2, t3⟩) (fun hHeld => ?_)
            clear hK K
            try simp only [Act.put, List.getElem_toArray, List.getElem_cons_succ, List.getElem_cons_zero, List.setIfInBounds_toArray, List.set_cons_zero, List.set_cons_succ]
            refine wpAnyH_ready (rs := [11]) (by kernel_rfl) (by simp) ?_
            refine AllReadyH.cons rfl (fun K hK => ?_) AllReadyH.nil
            go_simp
            refine (HRTAKE.out wq _ W1.heap.size hkq (Keeps.refl [] wq) (HBK.out _ _ ((Blk.new W1.drew _ _).alloc _) (HHF.out _ (by omega)).1) (by omega)).mono ?_
            rintro e wx ⟨rfl, hx, hkx0⟩
            have hkx : Keeps G wq wx := Keeps.trans (Keeps.mono (G := G) (Keeps.refl [] wq) (by simp)) hkx0 (fun j hj => .inl hj)
            have u0 := cell_keep hkx HBF.out.2.1 t0
            have u1 := cell_keep hkx HBF.out.2.1 t1
            have u2 := cell_keep hkx HOF.out.2 t2
            have u3 := cell_keep hkx HOF.out.2 t3
            have HX := hid hx
            clear hx hkx0
            refine hK.out _ _ ((hSe _).2 ⟨u0, u1, u2, u3⟩) (fun hHeld => ?_)
            clear hK K
            try simp only [Act.put, List.getElem_toArray, List.getElem_cons_succ, List.getElem_cons_zero, List.setIfInBounds_toArray, List.set_cons_zero, List.set_cons_succ]
            refine wpAnyH_take (i := 12) (v := ?_) rfl (by kernel_rfl) (by kernel_rfl) (by kernel_rfl) (fun _ _ _ h => h) ?_ (by assumption) ?_
            rotate_left 1
            · (apply Or.inl; constructor; rfl; intro W hSw; obtain ⟨s1, s2, s3, s4⟩ := (hSe W).1 hSw; go_simp; try (with_reducible rfl))
            try simp only [Act.put, List.getElem_toArray, List.getElem_cons_succ, List.getElem_cons_zero, List.setIfInBounds_toArray, List.set_cons_zero, List.set_cons_succ]
            refine wpAnyH_take (i := 13) (v := ?_) rfl (by kernel_rfl) (by kernel_rfl) (by kernel_rfl) (fun _ _ _ h => h) ?_ (by assumption) ?_
            rotate_left 1
            · (apply Or.inl; constructor; rfl; intro W hSw; obtain ⟨s1, s2, s3, s4⟩ := (hSe W).1 hSw; go_simp; try (with_reducible rfl))
            try simp only [Act.put, List.getElem_toArray, List.getElem_cons_succ, List.getElem_cons_zero, List.setIfInBounds_toArray, List.set_cons_zero, List.set_cons_succ]
            refine wpAnyH_done (by kernel_rfl) ?_ _
            clear HTAKE HRTAKE HBK
            have HT : Hid (SPB w wx s x (k + 1) F G lim T.1 (n - T.2) (.slice (some ⟨gb, go, none⟩) m gcap) hs) := by
              have hl2 := HGEN.out.2
              have hl1' := HS1.out.2.2.2.2.2.2.1
              have hle := HLE.out
              simp at hle
              exact hid (HS1.out.turn HQ.out hkq HX.out hkx ((Keeps.refl [] wx).drewN 0) HGEN.out.1 (by omega) (by omega) (by omega))
            have HBX := hid ((HBH.out.keeps hkq HBF.out.1).keeps hkx HBF.out.2.1)
            go_wp2_with fail
            go_meet
            case rel => exact ⟨rfl, F, G, _, _, hs, i1', g1', HT.out.keeps ((Keeps.refl [] _).drewN 0), HBX.out, HBF.out.1, HBF.out.2.1⟩
        · as_aux_lemma =>
          have b0 := HBH.out.cell 0
          have b1 := HBH.out.cell 1
          have f0 := HBH.out.frozen 0
          have f1 := HBH.out.frozen 1
          simp at b0 b1
          clear a1
          go_wp2_with fail
          go_meet
          case rel =>
            have hk : Keeps [hB] W1 ((W1.setCell ⟨hB, 0, none⟩ (.int .i64 hi)).setCell ⟨hB, 1, none⟩ (.int .i64 hg)) := ((Keeps.refl [hB] W1).setCell (p := ⟨hB, 0, none⟩) (.inl (by simp)) _).setCell (p := ⟨hB, 1, none⟩) (.inl (by simp)) _
            refine ⟨rfl, F, G, L, n, hs, hi, hg, (HS1.out.keepsF hk (fun j hj hx => ?_) (fun j hj hx => ?_) (fun j hj hx => ?_) (fun j hj => ?_)).more, ?_, HBF.out.1, HBF.out.2.1⟩
            · simp at hx
              subst hx
              exact HBF.out.1 hj
            · simp at hx
              subst hx
              exact HBF.out.2.1 hj
            · simp [Value.ownBlock] at hj hx
              have := HFL.out.2.2.2.2.1
              omega
            · simp at hj
              subst hj
              exact HFL.out.2.2.2.2.2
            · simpa using (HBH.out.set_ 0 (.int .i64 hi)).set_ 1 (.int .i64 hg)
        · as_aux_lemma =>
          have m1 : (kd == 1) = false := by simp [e1]
          have m3 : (kd == 3) = false := by simp [e3]
          have m4 : (kd == 4) = false := by simp [e4]
          have m5 : (kd == 5) = false := by simp [e5]
          have m6 : (kd == 6) = false := by simp [e6]
          clear e1 e3 e4 e5 e6 a1 a3 a4
          go_wp2_with fail
          go_meet
          case rel => exact ⟨rfl, F, G, L, n, hs, i1', g1', HS1.out.more, HBH.out, HBF.out.1, HBF.out.2.1⟩
      case rest =>
        obtain ⟨rfl, F2, G2, L2, n2, hs2, i2, g2, hS2, hB2, hBF2, hBG2⟩ := hcut
        have HS2 := hid hS2
        have b0 := hB2.cell 0
        have b1 := hB2.cell 1
        simp at b0 b1
        obtain ⟨x4, -⟩ := hS2.2.1.cN
        have HB2 := hid hB2
        clear hB2 hS2 a0 a1 a3 a4
        go_wp2_with fail
        refine (sget_any s F2 lim n2 L2 i2 g2 _ HS2.out.1).mono ?_
        rintro e w3 ⟨rfl, hk3⟩
        have b2 := cell_keep hk3 (by simp) b0
        have b3 := cell_keep hk3 (by simp) b1
        have x5 := cell_keep hk3 (by simp) x4
        have HS3 := hid (HS2.out.keeps hk3)
        clear b0 b1 x4 hk3
        go_wp2_with fail
        refine (rsget_any x G2 lim n2 L2 i2 g2 _ HS3.out.2.1).mono ?_
        rintro e w4 ⟨rfl, hk4⟩
        have x6 := cell_keep hk4 (by simp) x5
        have HS4 := hid (HS3.out.keeps hk4)
        obtain ⟨gv1, hgv1⟩ : ∃ v, (getR L2 i2 g2).1 = v := ⟨_, rfl⟩
        obtain ⟨gv2, hgv2⟩ : ∃ v, (getR L2 i2 g2).2 = v := ⟨_, rfl⟩
        rw [hgv1, hgv2]
        have HLEN := hid (fun W (hW : Keeps [] w4 W) => slen_any s F2 lim n2 L2 W (HS4.out.1.keeps hW (by simp)))
        clear b2 b3 x5 hk4 hgv1 hgv2
        go_wp2_with fail
        go_region_held3 (fun w' => w'.cell? ⟨x, 4, none⟩ = some (.int .i64 n2)) (first | trivial | (repeat (first | (with_reducible assumption) | (with_reducible refine drew_cell ?_) | (with_reducible refine drewN_cell ?_ _))))
          (first
            | (go_at_call 22; refine (HLEN.out _ (by repeat (first | (with_reducible exact Keeps.refl _ _) | (with_reducible assumption) | (with_reducible refine Keeps.drewN ?_ _) | (with_reducible refine Keeps.drew ?_) | (with_reducible refine Keeps.alloc ?_ _)))).mono ?_; rintro e w5 ⟨rfl, hk5a⟩; have hk5 : Keeps [] w4 w5 := (Keeps.trans (by repeat (first | (with_reducible exact Keeps.refl _ _) | (with_reducible assumption) | (with_reducible refine Keeps.drewN ?_ _) | (with_reducible refine Keeps.drew ?_) | (with_reducible refine Keeps.alloc ?_ _))) hk5a (by simp)); have x7 := cell_keep hk5 (by simp) x6; clear hk5a)
            | fail)
        all_goals
          go_wp2_with fail
          go_roundw
          case rel => exact ⟨k + 1, F2, G2, L2, n2, hs2, by omega, by omega, by go_num, HS4.out.keeps (hk5.drewN 0)⟩
          case measure => simp [intOf] <;> omega
    · obtain ⟨s1, s2, s3, s4, s5, s6, s7, s8, s9, s10, s11, s12, s13, s14⟩ := HST.out
      have hL : L.length ≤ 1099511627776 := by omega
      clear s3 s4 s5 s6 s7 s8 s9 s10 s11 s12 s13
      rcases (by omega : ¬ k < l.length ∨ (k < l.length ∧ ¬ k < 150)) with h | ⟨h0, h⟩
      all_goals
        go_wp2_with fail
        refine (sall_any s F lim n L _ s1 hL).mono ?_
        rintro e w3 ⟨⟨v3, rfl, hv3, ho3⟩, hk3⟩
        obtain ⟨A3, q3, rfl, -⟩ := hv3.form
        have s2' := s2.keeps hk3 (by simp)
        have HV3 := hid hv3
        have HK3 := hid (s14.trans hk3 (by simp))
        clear hv3 ho3 hk3
        go_wp2_with fail
        refine (rsall_any x G lim n L _ s2' hL).mono ?_
        rintro e w4 ⟨⟨v4, rfl, hv4, ho4⟩, hk4⟩
        obtain ⟨A4, q4, rfl, -⟩ := hv4.form
        have HV3' := hid ((HV3.out.keeps hk4 (by simp)).hsIn (F := []) (by simp))
        have HV4 := hid (hv4.hsIn (F := []) (by simp))
        have HK4 := hid (HK3.out.trans hk4 (by simp))
        clear hv4 ho4 hk4 s2'
        go_wp2_with (first
          | (go_at_call 30; refine (handles_any _ _ (allFrom 0 L) _ HV3'.out HV4.out).mono ?_; rintro e w5 ⟨rfl, hk5⟩)
          | (go_at_call 18; refine (sknown_any _).mono ?_; rintro e w6 ⟨rfl, hk6⟩))
        go_ret
        exact ⟨rfl, ((HK4.out.trans hk5 (by simp)).trans hk6 (by simp)).below (Nat.le_refl _) (by simp)⟩
end Go.Proofs.Ytkeffebcmajhmaa
