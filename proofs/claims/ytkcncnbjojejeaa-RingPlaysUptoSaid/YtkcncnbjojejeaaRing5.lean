/- The ring: Write by contract. -/
import Derived.Test.YtkcncnbjojejeaaRing4
namespace Go.Proofs.Ytkcncnbjojejeaa
open Go.RowKit
/-- A row of bytes more goes in, one byte. -/
theorem RingRep.more {w w' : World} {a g S f : Nat} {q : List Int} (h : RingRep w a g S f q) (hq : q.length < S) (x : Int)
    (hb : Blk w' a 74 #[.slice (some ⟨g, 0, none⟩) S S, .int .i64 f, .int .i64 ((q.length : Int) + 1)])
    (hg : ∀ F, w.rowIs g 5 S F → w'.rowIs g 5 S (fun j => if j = (f + q.length) % S then .int .u8 x else F j)) : RingRep w' a g S f (q ++ [x]) := by
  obtain ⟨_, hS1, hS2, hf, hq', F, hrow, hF⟩ := h
  refine ⟨?_, hS1, hS2, hf, by simp; omega, _, hg F hrow, fun i hi => ?_⟩
  · rw [List.length_append]; exact hb
  · simp only [List.length_append, List.length_cons, List.length_nil] at hi
    by_cases hiq : i = q.length
    · subst hiq
      simp
    · have hne : ¬ (f + i) % S = (f + q.length) % S := by
        intro he
        have h1 : (f + i) % S = if f + i < S then f + i else f + i - S := by
          split
          · exact Nat.mod_eq_of_lt (by assumption)
          · rw [Nat.mod_eq_sub_mod (by omega), Nat.mod_eq_of_lt (by omega)]
        have h2 : (f + q.length) % S = if f + q.length < S then f + q.length else f + q.length - S := by
          split
          · exact Nat.mod_eq_of_lt (by assumption)
          · rw [Nat.mod_eq_sub_mod (by omega), Nat.mod_eq_of_lt (by omega)]
        rw [h1, h2] at he
        split at he <;> split at he <;> omega
      rw [if_neg hne, hF i (by omega)]
      simp [List.getElem?_append, show i < q.length by omega]
def poured (S : Nat) (q : List Int) (rows : List (Value × List Int)) : List Int := (q ++ (rows.map (·.2)).flatten).take S
theorem poured_nil {S : Nat} {q : List Int} (h : q.length ≤ S) : poured S q [] = q := by simp [poured, List.take_of_length_le h]
theorem poured_snoc {S : Nat} {q : List Int} (rows : List (Value × List Int)) (r : Value × List Int) :
    poured S q (rows ++ [r]) = poured S q rows ++ r.2.take (S - (poured S q rows).length) := by
  simp only [poured, List.map_append, List.flatten_append, List.map_cons, List.map_nil, List.flatten_cons, List.flatten_nil, List.append_nil]
  rw [← List.append_assoc, List.take_append, List.length_take]
  congr 2
  omega
set_option maxRecDepth 100000 in
set_option maxHeartbeats 1000000 in
theorem write_t (a g S f : Nat) (q : List Int) (pv : Value) (rows : List (Value × List Int)) (w : World) (h : RingRep w a g S f q)
    (hp : CellsIn w [a, g] pv (rows.map (·.1))) (hrs : ∀ r ∈ rows, CellsIn w [a, g] r.1 (bytesV r.2)) :
    Calls Try.prog 17 #[.pointer (some ⟨a, 0, none⟩), pv] w fun e w' => e = .returned (.int .i64 ((poured S q rows).length - q.length)) ∧ RingRep w' a g S f (poured S q rows) ∧ Keeps [a, g] w w' := by
  have hqS : q.length ≤ S := h.2.2.2.2.1
  have hS1 := h.2.1
  have hS2 := h.2.2.1
  have hf := h.2.2.2.1
  have hpn := poured_nil hqS
  have HR := hid hrs
  have HP := hid hp
  obtain ⟨A, c, rfl, hp1, hp2⟩ := hp.shape
  simp only [List.length_map] at hp1 ⊢
  have hrl : rows.length ≤ 9223372036854775807 := by omega
  clear hrs hp
  go_enter Try.func17, Try.ntmps17
  go_wp2_with fail
  go_loopw [5, 7, 9, 12] (fun n _ _ i wr => ∃ k : Nat, k ≤ rows.length ∧ i = .int .i64 k ∧ n = .int .i64 ((poured S q (rows.take k)).length - q.length) ∧ RingRep wr a g S f (poured S q (rows.take k)) ∧ Keeps [a, g] w wr)
    (fun _ _ _ i _ => rows.length - (intOf i).toNat)
  case atStart => exact ⟨0, Nat.zero_le _, rfl, by simp [hpn], by simp [hpn, h], Keeps.refl _ _⟩
  case round =>
    obtain ⟨k, hk, rfl, rfl, hr, hkp⟩ := hrel
    have hP := HP.out.keeps hkp (by simp)
    by_cases hlt : k < rows.length
    · obtain ⟨pb, po, rfl, hpb, hpc⟩ := hP.at_ (by simpa using (by omega : 0 < rows.length))
      obtain ⟨v, zs, hr0⟩ : ∃ v zs, rows[k]? = some (v, zs) := ⟨rows[k].1, rows[k].2, by simp [hlt]⟩
      have hcell := hpc k v (by simp [hr0])
      have hbz : CellsIn wr [a, g] v (bytesV zs) := (HR.out (v, zs) (List.mem_of_getElem? hr0)).keeps hkp (by simp)
      have htk : rows.take (k + 1) = rows.take k ++ [(v, zs)] := by rw [List.take_add_one, hr0]; rfl
      have hnext := poured_snoc (S := S) (q := q) (rows.take k) (v, zs)
      rw [← htk] at hnext
      generalize hq1 : poured S q (rows.take k) = q1 at hr hnext ⊢
      have hq1S : q1.length ≤ S := hr.2.2.2.2.1
      obtain ⟨m, hm⟩ : ∃ m, min zs.length (S - q1.length) = m := ⟨_, rfl⟩
      have HN : Hid (poured S q (rows.take (k + 1)) = q1 ++ zs.take m) := by
        refine hnext.trans ?_
        exact congrArg (q1 ++ ·) (List.take_eq_take_iff.2 (by simp only; omega))
      have hq0 : q.length ≤ q1.length := by
        rw [← hq1]
        unfold poured
        rw [List.length_take, List.length_append]
        omega
      have HRk := hid hr0
      have HQ1 := hid hq1
      have HT := hid htk
      have HPC := hid hpc
      clear hr0 hq1 htk hnext hpc hP
      have hcz := hbz
      obtain ⟨A2, c2, rfl, hz1, hz2⟩ := hbz.shape
      simp only [bytesV, List.length_map] at hz1 hcell hcz
      have hzl : zs.length ≤ 9223372036854775807 := by omega
      have hmin : (if (S : Int) - q1.length < zs.length then (S : Int) - q1.length else zs.length) = m := by split <;> omega
      have hmz : m ≤ zs.length := by omega
      have hmS : q1.length + m ≤ S := by omega
      have hmc : m ≤ c2 := by omega
      clear hm
      have r0 := hr.c0
      have r2 := hr.c2
      have hk1 : (k : Int) < rows.length := by omega
      go_wp2_with (go_at_call 29; refine (room_any a q1.length S S (some ⟨g, 0, none⟩) _ r0 r2 (by omega) (by omega) hS2).mono ?_; rintro e w1 ⟨rfl, kk, rfl⟩)
      have hr1 : RingRep (wr.drewN kk) a g S f q1 := hr.keeps ((Keeps.refl [] wr).drewN kk) (by simp) (by simp)
      have hkp1 : Keeps [a, g] w (wr.drewN kk) := hkp.drewN kk
      have hcz1 : CellsIn (wr.drewN kk) [a, g] (.slice A2 zs.length c2) (zs.map (.int .u8)) := by simpa using hcz.drewN kk
      clear r0 r2 hr hkp hcz hbz hcell
      generalize wr.drewN kk = wo at hr1 hkp1 hcz1 ⊢
      have HC := hid hcz1
      have HK := hid hkp1
      clear hcz1 hkp1
      go_loopw [9, 25] (fun _ i wr => ∃ j : Nat, j ≤ m ∧ i = .int .i64 j ∧ RingRep wr a g S f (q1 ++ zs.take j) ∧ Keeps [a, g] wo wr) (fun _ i _ => m - (intOf i).toNat)
      case atStart => exact ⟨0, Nat.zero_le _, rfl, by simpa using hr1, Keeps.refl _ _⟩
      case round =>
        obtain ⟨j, hj, rfl, hr, hkp⟩ := hrel
        by_cases hjm : j < m
        · have hjz : j < zs.length := by omega
          have hcz := HC.out.keeps hkp (by simp)
          obtain ⟨zb, zo, rfl, hzb, hzc⟩ := hcz.at_ (by simp; omega)
          obtain ⟨x, hx⟩ : ∃ x, zs[j]? = some x := ⟨zs[j], by simp [hjz]⟩
          have hcell := hzc j (.int .u8 x) (by simp [hx])
          clear hzc hcz
          have htk : zs.take (j + 1) = zs.take j ++ [x] := by rw [List.take_add_one, hx]; rfl
          have hl2 : (q1 ++ zs.take j).length = q1.length + j := by simp; omega
          have HT2 : Hid (q1 ++ zs.take (j + 1) = (q1 ++ zs.take j) ++ [x]) := by
            rw [Hid, htk, List.append_assoc]
          clear htk hx
          generalize q1 ++ zs.take j = q2 at hr HT2 hl2
          obtain ⟨hb, -, -, -, hq2S, F, hrow, hF⟩ := id hr
          have r0 := hr.c0
          have r1 := hr.c1
          have r2 := hr.c2
          obtain ⟨y, hy⟩ : ∃ y, (f + q2.length) % S = y := ⟨_, rfl⟩
          have hyS : y < S := by rw [← hy]; exact Nat.mod_lt _ (by omega)
          have rc := hrow.cell hyS
          have rf := hrow.frozen y
          have HY := hid hy
          have hne := hr.ne
          have hL : q2.length < S := by omega
          have HL := hid hl2
          obtain ⟨L, hLe⟩ : ∃ L, q2.length = L := ⟨_, rfl⟩
          have HF := hid hF
          have HB := hid hb
          have fr := hb.frozen 2
          rw [hLe] at r2 hL
          rw [hLe] at HY
          have HLe := hid hLe
          clear hLe hy hl2 hF hb
          clear hmin hpn h hpb hp1 hp2 hk hk1 hlt hzl hz1 hz2 hmz hmc hq0 hrl hq1S hqS hzb
          go_wp2_with fail
          go_region_held3 (fun w' => w'.cell? ⟨a, 0, none⟩ = some (.slice (some ⟨g, 0, none⟩) S S) ∧ w'.cell? ⟨a, 1, none⟩ = some (.int .i64 f) ∧ w'.cell? ⟨a, 2, none⟩ = some (.int .i64 L))
            (first | go_keep | (refine ⟨?_, ?_, ?_⟩ <;> (rw [World.cell?_setCell_other _ _ _ _ (fun e => hne (by injection e with e1; exact e1.symm))]; first | exact r0 | exact r1 | exact r2)))
            (first
              | (go_at_call 39; refine (at_nat a f L y S S _ _ HY (by assumption) (by assumption) (by omega) (by omega) (by omega) (by omega)).mono ?_; rintro e w' ⟨rfl, kk, rfl⟩))
          go_wp2
          go_roundw
          case rel =>
            refine ⟨j + 1, by omega, by go_num, ?_, ?_⟩
            · rw [HT2.out]
              refine hr.more (by rw [HLe.out]; exact hL) x ?_ ?_
              · rw [HLe.out]
                have hb := HB.out
                rw [HLe.out] at hb
                exact ((hb.drewN _).far (p := ⟨g, y, none⟩) hne _).set_ 2 _
              · intro F0 h0
                rw [HLe.out, HY.out]
                exact (World.rowIs.set (w := wr.drewN _) h0 y _).setOther (a := ⟨a, 2, none⟩) (Ne.symm hne) _
            · exact ((hkp.drewN _).setCell (p := ⟨g, y, none⟩) (.inl (by simp)) _).setCell (p := ⟨a, 2, none⟩) (.inl (by simp)) _
          case measure => simp [intOf]; omega
        · have hjm' : j = m := by omega
          subst hjm'
          go_wp2
          go_roundw
          case rel =>
            refine ⟨k + 1, by omega, by go_num, ?_, ?_, ?_⟩
            · rw [HN.out, List.length_append, List.length_take, Nat.min_eq_left hmz]
              congr 1
              omega
            · rw [HN.out]; exact hr
            · exact HK.out.trans hkp (by simp)
          case measure => simp [intOf]; omega
    · have hkl : k = rows.length := by omega
      subst hkl
      go_wp2
      go_ret
      rw [List.take_length] at hr
      exact ⟨by simp, hr, hkp⟩
/-- The same, what comes out under names of its own. -/
theorem write_any (a g S f : Nat) (q q' : List Int) (m : Int) (pv : Value) (rows : List (Value × List Int)) (w : World) (h : RingRep w a g S f q)
    (hp : CellsIn w [a, g] pv (rows.map (·.1))) (hrs : ∀ r ∈ rows, CellsIn w [a, g] r.1 (bytesV r.2)) (hq : poured S q rows = q') (hm : (q'.length : Int) - q.length = m) :
    Calls Try.prog 17 #[.pointer (some ⟨a, 0, none⟩), pv] w fun e w' => e = .returned (.int .i64 m) ∧ RingRep w' a g S f q' ∧ Keeps [a, g] w w' := by
  subst hq hm
  exact write_t a g S f q pv rows w h hp hrs
end Go.Proofs.Ytkcncnbjojejeaa
