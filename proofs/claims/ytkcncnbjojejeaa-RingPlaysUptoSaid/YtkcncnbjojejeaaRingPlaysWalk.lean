/- The walk of RingPlays. -/
import Derived.Test.YtkcncnbjojejeaaRingSt
import Derived.Deep.DeepCutAuto
import Derived.Deep.CutBlock
import Derived.Deep.DrawnRows
namespace Go.Proofs.Ytkcncnbjojejeaa
open Go.RowKit
set_option linter.unusedVariables false
attribute [local go_sem ↓] Go.wp_at_zero Go.wp_at_succ
set_option maxRecDepth 100000 in
set_option maxHeartbeats 16000000 in
theorem ringPlays_in (w : World) (S : Nat) (hS1 : 1 ≤ S) (hS2 : S ≤ 65536) (lv : Value) (l : List ActD) (hl : ActsIn w lv l) (hs : ∀ a ∈ l, a.b.length ≤ 1048576 ∧ a.c.length ≤ 1048576) :
    Calls Try.prog 3 #[.int .i64 S, lv] w fun e w' => e = .returned (.bool true) ∧ Below w.heap.size w w' := by
  have HL := hid hl
  have HS := hid hs
  obtain ⟨A, c, rfl, h1, h2⟩ := hl.shape
  clear hl hs
  go_enter Try.func3, Try.ntmps3
  go_wp2_with fail
  refine (heavy_any _ l w HL.out HS.out).mono ?_
  rintro e w1 ⟨⟨r, rfl⟩, hk1⟩
  cases r with
  | true =>
    go_wp2_with (go_at_call 13; refine (known_any _).mono ?_; rintro e w11 ⟨rfl, hk11⟩)
    go_ret
    exact ⟨rfl, (hk1.trans hk11 (by simp)).below (Nat.le_refl _) (by simp)⟩
  | false =>
    go_wp2_with fail
    refine (new_ok S _ hS1 hS2).mono ?_
    rintro e w2 ⟨rfl, hr2, hk2⟩
    obtain ⟨a, hae⟩ : ∃ a, w1.heap.size + 1 = a := ⟨_, rfl⟩
    obtain ⟨g, hge⟩ : ∃ g, w1.heap.size = g := ⟨_, rfl⟩
    rw [hae, hge] at hr2
    rw [hae]
    have hag : w.heap.size ≤ g ∧ w.heap.size ≤ a := by have := hk1.size; omega
    clear hae hge
    go_wp2_with fail
    refine (rrnew_ok S _ hS1 hS2).mono ?_
    rintro e w3 ⟨rfl, hx3, hk3⟩
    have hst : Hid (RSt w w3 a g w2.heap.size S) := by
      have hlt := hr2.lt
      have := hk1.size
      have := hk2.size
      exact ⟨0, [w2.heap.size], [], hr2.keeps hk3 (by simp) (by simp), hx3, hag.2, hag.1, by simp; omega, by simp; omega, by simp; omega, (hk1.trans hk2 (by simp)).trans hk3 (by simp), hS2⟩
    obtain ⟨x, hxe⟩ : ∃ x, w2.heap.size = x := ⟨_, rfl⟩
    rw [hxe] at hst
    rw [hxe]
    clear hr2 hk1 hk2 hk3 hx3 hag hxe
    go_wp2_with fail
    go_loopw [9, 10, 11, 12, 13] (fun i _ _ _ _ wr => ∃ k : Nat, k ≤ l.length ∧ k ≤ 150 ∧ i = .int .i64 k ∧ RSt w wr a g x S) (fun i _ _ _ _ _ => l.length - (intOf i).toNat)
    case atStart => exact ⟨0, Nat.zero_le _, by omega, rfl, hst.out⟩
    case round =>
      clear hst
      obtain ⟨k, hk, hk150, rfl, f, F, q, hSt⟩ := hrel
      have HST := hid hSt
      clear hSt
      by_cases hlt : k < l.length ∧ k < 150
      · obtain ⟨hl1, hl2⟩ := hlt
        obtain ⟨ac, ha⟩ : ∃ a, l[k]? = some a := ⟨l[k], by simp [hl1]⟩
        have hw0 : Keeps [] w wr := by
          obtain ⟨_, _, _, _, _, _, _, h, _⟩ := HST.out
          exact h
        have hqS := HST.out.len
        have HLr := hid (HL.out.keeps hw0)
        obtain ⟨b, o, rfl, hc⟩ := HLr.out.at_ (by omega)
        have hbw : b < w.heap.size := by
          obtain ⟨ob, oo, hbo, hcc⟩ := HL.out.at_ (by omega)
          injection hbo with hbo
          injection hbo with e1 e2 _
          subst e1 e2
          exact World.block_lt_of_cell? w _ (hcc k ac ha).1
        have hrow := HLr.out.rows ac (List.mem_of_getElem? ha)
        have hrowW := HL.out.rows ac (List.mem_of_getElem? ha)
        have hsz := HS.out ac (List.mem_of_getElem? ha)
        obtain ⟨c0, c1, c2, c3⟩ := hc k ac ha
        obtain ⟨kd, n, bv, zb, cv, zc⟩ := ac
        simp only at hrow hrowW hsz c0 c1 c2 c3
        obtain ⟨z1, z2⟩ := hsz
        obtain ⟨BA, bc, rfl, -, -⟩ := hrow.1.shape
        obtain ⟨CA, cc, rfl, -, -⟩ := hrow.2.shape
        simp only [List.length_map] at hrow hrowW c2 c3
        have HB := hid hrow.1
        have HC := hid hrow.2
        have HBW := hid hrowW.1
        have HCW := hid hrowW.2
        have HW0 := hid hw0
        have hgh : (∀ j ∈ F, j < wr.heap.size) ∧ a < wr.heap.size ∧ g < wr.heap.size ∧ (∀ j ∈ F, w.heap.size ≤ j) ∧ w.heap.size ≤ a ∧ w.heap.size ≤ g := by
          obtain ⟨s1, s2, s3, s4, s5, s6, s7, s8, s9⟩ := HST.out
          exact ⟨s2.flt, s1.lt.1, s1.lt.2, s5, s3, s4⟩
        have HGH := hid hgh
        have HBA : Hid (b ∉ [a, g] ∧ b ∉ F) := hid ⟨fun hx => by
            simp at hx
            omega, fun hx => by have := hgh.2.2.2.1 b hx; omega⟩
        clear hc hrow hrowW ha hw0 hgh
        go_upto_block 2 with (fail)
        go_cut [10, 11, 12, 13] (fun s10 _ _ _ wx => s10 = .bool true ∧ RSt w wx a g x S)
        case first =>
          rcases (by omega : kd = 1 ∨ kd = 2 ∨ kd = 3 ∨ kd = 4 ∨ (kd ≠ 1 ∧ kd ≠ 2 ∧ kd ≠ 3 ∧ kd ≠ 4)) with rfl | rfl | rfl | rfl | ⟨n1, n2, n3, n4⟩
          · as_aux_lemma =>
            have hfl : (zb ++ zc).length ≤ 2097152 := by rw [List.length_append]; omega
            have hra := fun W (hW : Keeps [] wr W) => roomy_any (.slice BA zb.length bc) zb W (HB.out.keeps hW (by simp)) (by omega)
            have hrb := fun W (hW : Keeps [] wr W) => roomy_any (.slice CA zc.length cc) zc W (HC.out.keeps hW (by simp)) (by omega)
            have HRA := hid hra
            have HRB := hid hrb
            clear hra hrb c1 hfl
            go_wp2_with fail
            go_region_held3 (fun w' => w'.cell? ⟨b, o + k * 4 + 2, none⟩ = some (.slice BA zb.length bc) ∧ w'.cell? ⟨b, o + k * 4 + 3, none⟩ = some (.slice CA zc.length cc)) (first | trivial | assumption | exact ⟨by assumption, by assumption⟩)
              (first
                | (go_at_call_of 16 (Value.slice BA zb.length bc); refine (HRA.out _ (by repeat (first | (with_reducible exact Keeps.refl _ _) | (with_reducible assumption) | (with_reducible refine Keeps.drewN ?_ _) | (with_reducible refine Keeps.drew ?_) | (with_reducible refine Keeps.alloc ?_ _)))).mono ?_; rintro e wa ⟨A1, q1, rfl, ra, oa, ka1⟩; have ka : Keeps [] wr wa := (by first | exact ka1.pre | exact ka1.pre1 | exact ka1); have oa' : ∀ j, (Value.slice A1 (zb.length + 1) q1).ownBlock = some j → wr.heap.size ≤ j := (by intro j hj; have := oa j hj; simpa using this); have c2a := cell_keep ka (by simp) c2; have c3a := cell_keep ka (by simp) c3; have HA1 := hid ra; have HOA := hid oa'; clear ra oa oa' ka1)
                | (go_at_call_of 16 (Value.slice CA zc.length cc); refine (HRB.out _ (by repeat (first | (with_reducible exact Keeps.refl _ _) | (with_reducible assumption) | (with_reducible refine Keeps.drewN ?_ _) | (with_reducible refine Keeps.drew ?_) | (with_reducible refine Keeps.alloc ?_ _)))).mono ?_; rintro e wb ⟨A2, q2, rfl, rb, ob, kb1⟩; have kb : Keeps [] wa wb := (by first | exact kb1.pre | exact kb1.pre1 | exact kb1); have ob' : ∀ j, (Value.slice A2 (zc.length + 1) q2).ownBlock = some j → wa.heap.size ≤ j := (by intro j hj; have := ob j hj; simpa using this); have c2b := cell_keep kb (by simp) c2a; have c3b := cell_keep kb (by simp) c3a; have HA2 := hid rb; have HOB := hid ob'; clear rb ob ob' kb1)
                | fail)
            all_goals
              have kab := ka.trans kb (by simp)
              have HA1b := hid (HA1.out.keeps kb (by simp))
              have hq1 : (zb.length : Int) ≤ q1 := by obtain ⟨_, _, hv, h, -⟩ := HA1.out.form; injection hv with _ _ hc; subst hc; omega
              have hq2 : (zc.length : Int) ≤ q2 := by obtain ⟨_, _, hv, h, -⟩ := HA2.out.form; injection hv with _ _ hc; subst hc; omega
              have HSTb := hid (HST.out.keeps kab)
              have hwsz : wr.heap.size ≤ wb.heap.size := kab.size
              have hlow : ∀ j ∈ [a, g] ++ F, w.heap.size ≤ j ∧ j < wr.heap.size := fun j hj => by
                have h := HGH.out
                simp only [List.cons_append, List.nil_append, List.mem_cons] at hj
                rcases hj with rfl | rfl | hj
                · exact ⟨h.2.2.2.2.1, h.2.1⟩
                · exact ⟨h.2.2.2.2.2, h.2.2.1⟩
                · exact ⟨h.2.2.2.1 j hj, h.1 j hj⟩
              have HLOW := hid hlow
              have oA : ∀ j, (Value.slice A1 (zb.length + 1) q1).ownBlock = some j → j ∉ [a, g] ++ F := fun j hj hx => by
                have h1 := HOA.out j hj
                have := (hlow j hx).2
                omega
              have oB : ∀ j, (Value.slice A2 (zc.length + 1) q2).ownBlock = some j → j ∉ [a, g] ++ F := fun j hj hx => by
                have h1 := HOB.out j hj
                have h2 := ka.size
                have := (hlow j hx).2
                omega
              have HRA1 := hid (fun W (hW : Keeps ([a, g] ++ F) wb W) => HA1b.out.keeps hW oA)
              have HRA2 := hid (fun W (hW : Keeps ([a, g] ++ F) wb W) => HA2.out.keeps hW oB)
              have HBC := hid (fun W (hW : Keeps ([a, g] ++ F) wb W) => ((HBW.out.old (G := [a, g] ++ F) (fun j hj => (HLOW.out j hj).1)).keeps (HW0.out.trans kab (by simp)) (by simp)).keeps hW (fun j hj => .inl hj))
              have HCC := hid (fun W (hW : Keeps ([a, g] ++ F) wb W) => ((HCW.out.old (G := [a, g] ++ F) (fun j hj => (HLOW.out j hj).1)).keeps (HW0.out.trans kab (by simp)) (by simp)).keeps hW (fun j hj => .inl hj))
              have hadd := fun W H0 (hW : Keeps [] wb W) (hB : Blk W H0 32 #[.slice A1 zb.length q1, .slice A2 zc.length q2]) (hH : wb.heap.size ≤ H0) =>
                write2 a g S f q (.slice A1 zb.length q1) (.slice A2 zc.length q2) zb zc wb W H0 HSTb.out.1 hW hB hH (by
                  have h := (HA1b.out.upto (k := zb.length) (by omega)).cellsIn (F := [a, g]) (fun j hj hx => oA j (by cases A1 with
                      | none => cases hj
                      | some a => exact hj) (by simp at hx; rcases hx with h | h <;> simp [h]))
                  rw [show (bytesV (zb ++ [171])).take (zb.length * 1) = bytesV zb by rw [Nat.mul_one]; simp [bytesV]] at h
                  exact h) (by
                  have h := (HA2.out.upto (k := zc.length) (by omega)).cellsIn (F := [a, g]) (fun j hj hx => oB j (by cases A2 with
                      | none => cases hj
                      | some a => exact hj) (by simp at hx; rcases hx with h | h <;> simp [h]))
                  rw [show (bytesV (zc ++ [171])).take (zc.length * 1) = bytesV zc by rw [Nat.mul_one]; simp [bytesV]] at h
                  exact h)
              have hradd := fun W1 W H0 (hW1 : Keeps [a, g] wb W1) (hW : Keeps [] W1 W) (hB : Blk W H0 32 #[.slice BA zb.length bc, .slice CA zc.length cc]) (hH : wb.heap.size ≤ H0) =>
                rwrite2 x S F q (.slice BA zb.length bc) (.slice CA zc.length cc) zb zc W1 W H0 (by
                  obtain ⟨s1, s2, s3, s4, s5, s6, s7, -⟩ := HSTb.out
                  exact s2.keeps hW1 (fun j hj hx => by
                    simp at hx
                    rcases hx with rfl | rfl
                    · exact s6 hj
                    · exact s7 hj)) hS2 hqS hW hB (fun hx => by have := HLOW.out H0 (by simp [hx]); omega)
                  ((HBC.out W1 (hW1.mono (fun j hj => by simp at hj; rcases hj with h | h <;> simp [h]))).mono (fun j hj => by simp [hj]))
                  ((HCC.out W1 (hW1.mono (fun j hj => by simp at hj; rcases hj with h | h <;> simp [h]))).mono (fun j hj => by simp [hj]))
              have HADD := hid hadd
              have HRADD := hid hradd
              have tok1 : True := trivial
              have HK7 : Hid (∀ j ∈ (Value.slice A1 (zb.length + 1) q1).ownBlock.toList, j ∉ [a, g] ++ F ∧ j < wb.heap.size ∧ w.heap.size ≤ j) := hid (fun j hj => by
                have h1 := HOA.out j (by simpa using hj)
                have h2 := HA1b.out.lt j (by simpa using hj)
                have h3 := HW0.out.size
                exact ⟨oA j (by simpa using hj), h2, by omega⟩)
              have HBN : Hid (b ∉ [a, g] ++ F) := hid (fun hx => by have := (HLOW.out b hx).1; omega)
              clear hadd hradd hlow oA oB c2 c3 c2a c3a
              go_wp2_with fail
              go_region_held3 (fun w' => w'.cell? ⟨b, o + k * 4 + 2, none⟩ = some (.slice BA zb.length bc) ∧ w'.cell? ⟨b, o + k * 4 + 3, none⟩ = some (.slice CA zc.length cc)) (first | trivial | assumption | (refine ⟨?_, ?_⟩ <;> (repeat (first | (with_reducible assumption) | (with_reducible refine alloc_cell ?_ _) | (with_reducible refine drew_cell ?_) | (with_reducible refine drewN_cell ?_ _)))))
                (first
                  | (go_at_call 17; refine (HADD.out _ _ (by repeat (first | (with_reducible exact Keeps.refl _ _) | (with_reducible assumption) | (with_reducible refine Keeps.drewN ?_ _) | (with_reducible refine Keeps.drew ?_) | (with_reducible refine Keeps.alloc ?_ _))) (by repeat (first | (with_reducible refine Blk.drew ?_) | (with_reducible refine Blk.drewN ?_ _) | (with_reducible exact Blk.newAt (by simp)) | (with_reducible refine Blk.alloc ?_ _))) (by simp)).mono ?_; rintro e wq ⟨rfl, hq', hkq0⟩; have hkq : Keeps [a, g] wb wq := (Keeps.trans (by repeat (first | (with_reducible exact Keeps.refl _ _) | (with_reducible assumption) | (with_reducible refine Keeps.drewN ?_ _) | (with_reducible refine Keeps.drew ?_) | (with_reducible refine Keeps.alloc ?_ _))) hkq0 (fun j hj => .inl hj)); have HBK := hid (fun (j : Nat) (cs : Array Value) (hB : Blk _ j 32 cs) (hG : j ∉ [a, g]) => hB.keeps hkq0 hG); have d2 := cell_keep hkq HBA.out.1 c2b; have d3 := cell_keep hkq HBA.out.1 c3b; have HQ' := hid hq'; clear hq' hkq0)
                  | (go_at_call 18; refine (HRADD.out wq _ _ hkq (by repeat (first | (with_reducible exact Keeps.refl _ _) | (with_reducible assumption) | (with_reducible refine Keeps.drewN ?_ _) | (with_reducible refine Keeps.drew ?_) | (with_reducible refine Keeps.alloc ?_ _))) (by first | (refine HBK.out _ _ (by repeat (first | (with_reducible refine Blk.drew ?_) | (with_reducible refine Blk.drewN ?_ _) | (with_reducible exact Blk.newAt (by simp)) | (with_reducible refine Blk.alloc ?_ _))) (fun hx => by have h1 := (HLOW.out _ (List.mem_append_left F hx)).2; first | omega | (simp at h1; omega))) | (repeat (first | (with_reducible refine Blk.drew ?_) | (with_reducible refine Blk.drewN ?_ _) | (with_reducible exact Blk.newAt (by simp)) | (with_reducible refine Blk.alloc ?_ _)))) (by have h1 := hkq.size; first | omega | (simp; omega))).mono ?_; rintro e wx ⟨rfl, ⟨F', hr', hm'⟩, hkx0⟩; have hkx : Keeps F wq wx := (Keeps.trans (by repeat (first | (with_reducible exact Keeps.refl _ _) | (with_reducible assumption) | (with_reducible refine Keeps.drewN ?_ _) | (with_reducible refine Keeps.drew ?_) | (with_reducible refine Keeps.alloc ?_ _))) hkx0 (fun j hj => .inl hj)); have hgx : Keeps ([a, g] ++ F) wb wx := (hkq.mono (G := [a, g] ++ F) (fun j hj => by simp at hj; rcases hj with h | h <;> simp [h])).trans hkx (fun j hj => .inl (by simp [hj])); have d4 := cell_keep hkx HBA.out.2 d2; have d5 := cell_keep hkx HBA.out.2 d3; have HR' := hid hr'; have HM' := hid hm'; clear hr' hm' hkx0)
                  | (go_at_call 19; have _t := tok1; refine (stands_any _ _ zb _ ((HRA1.out _ (by repeat (first | (with_reducible exact Keeps.refl _ _) | (with_reducible assumption) | (with_reducible refine Keeps.drewN ?_ _) | (with_reducible refine Keeps.drew ?_) | (with_reducible refine Keeps.alloc ?_ _)))).cellsIn (by simp)) ((HBC.out _ (by repeat (first | (with_reducible exact Keeps.refl _ _) | (with_reducible assumption) | (with_reducible refine Keeps.drewN ?_ _) | (with_reducible refine Keeps.drew ?_) | (with_reducible refine Keeps.alloc ?_ _)))).mono (by simp))).mono ?_; rintro e ws ⟨rfl, hks0⟩; have hks : Keeps [] wx ws := (by first | exact hks0.pre | exact hks0.pre1 | exact hks0); have hgs : Keeps ([a, g] ++ F) wb ws := hgx.trans hks (by simp); have d6 := cell_keep hks (by simp) d4; have d7 := cell_keep hks (by simp) d5; clear hks0 tok1 _t)
                  | (go_at_call 19; refine (stands_any _ _ zc _ ((HRA2.out _ (by repeat (first | (with_reducible exact Keeps.refl _ _) | (with_reducible assumption) | (with_reducible refine Keeps.drewN ?_ _) | (with_reducible refine Keeps.drew ?_) | (with_reducible refine Keeps.alloc ?_ _)))).cellsIn (by simp)) ((HCC.out _ (by repeat (first | (with_reducible exact Keeps.refl _ _) | (with_reducible assumption) | (with_reducible refine Keeps.drewN ?_ _) | (with_reducible refine Keeps.drew ?_) | (with_reducible refine Keeps.alloc ?_ _)))).mono (by simp))).mono ?_; rintro e wt ⟨rfl, hkt0⟩; have hkt1 : Keeps [] ws wt := (by first | exact hkt0.pre | exact hkt0.pre1 | exact hkt0); have hkt := hks.trans hkt1 (by simp); have hgt : Keeps ([a, g] ++ F) wb wt := hgs.trans hkt1 (by simp); have d8 := cell_keep hkt1 (by simp) d6; have d9 := cell_keep hkt1 (by simp) d7; clear hkt0)
                  | fail)
              all_goals
                clear HADD HRADD HBK HBC HCC
                go_wp2_with fail
                refine (spoil_any _ _ _ _ (HRA1.out _ (by repeat (first | (with_reducible exact Keeps.refl _ _) | (with_reducible assumption) | (with_reducible refine Keeps.drewN ?_ _) | (with_reducible refine Keeps.drew ?_) | (with_reducible refine Keeps.alloc ?_ _)))) (by omega)).mono ?_
                rintro e w7 ⟨⟨r7, rfl⟩, hk7a⟩
                have hk7 : Keeps (Value.slice A1 (zb.length + 1) q1).ownBlock.toList wt w7 := (by first | exact hk7a.pre | exact hk7a.pre1 | exact hk7a)
                have HDONE := hid (HSTb.out.turnK HQ'.out hkq HR'.out HM'.out hkx hkt hk7 HK7.out)
                clear hk7a hk7
                go_wp2_with fail
                go_meet
                case rel => exact ⟨rfl, HDONE.out⟩
          · as_aux_lemma =>
            have hd := fun W (hW : Keeps [] wr W) => skip_any a g S f q n W (by
              obtain ⟨s1, -⟩ := HST.out
              exact s1.keeps hW (by simp) (by simp))
            have hr := fun W1 W (hW1 : Keeps [a] wr W1) (hW : Keeps [] W1 W) => rskip_any x S F q n W (by
              obtain ⟨s1, s2, s3, s4, s5, s6, s7, s8, s9⟩ := HST.out
              exact (s2.keeps hW1 (fun j hj hx => by simp at hx; subst hx; exact s6 hj)).keeps hW (by simp)) (by omega)
            obtain ⟨cl, hcl⟩ : ∃ cl, clip n q.length = cl := ⟨_, rfl⟩
            rw [hcl] at hd hr
            have HD := hid hd
            have HR := hid hr
            clear hd hr c2 c3 hcl
            go_wp2_with fail
            go_region_held3 (fun w' => w'.cell? ⟨b, o + k * 4 + 1, none⟩ = some (.int .i64 n)) (first | trivial | assumption)
              (first
                | (go_at_call 21; refine (HD.out _ (by repeat (first | (with_reducible exact Keeps.refl _ _) | (with_reducible assumption) | (with_reducible refine Keeps.drewN ?_ _) | (with_reducible refine Keeps.drew ?_)))).mono ?_; rintro e yl ⟨rfl, ⟨f2, hr2⟩, hk4a⟩; have hk4 : Keeps [a] wr yl := (by first | exact hk4a.pre | exact hk4a.pre1 | exact hk4a); have d1 := cell_keep hk4 (fun hx => HBA.out.1 (by simp at hx; simp [hx])) c1; have HR2 := hid hr2; clear hr2 hk4a)
                | (go_at_call 22; refine (HR.out yl _ hk4 (by repeat (first | (with_reducible exact Keeps.refl _ _) | (with_reducible assumption) | (with_reducible refine Keeps.drewN ?_ _) | (with_reducible refine Keeps.drew ?_)))).mono ?_; rintro e yr ⟨rfl, ⟨F2, hx2, hl2⟩, hk5a⟩; have hk5 : Keeps F yl yr := (by first | exact hk5a.pre | exact hk5a.pre1 | exact hk5a); have hl2' : Later F yl F2 := (by intro j hj; have := hl2 j hj; simpa using this); have d2 := cell_keep hk5 HBA.out.2 d1; have HX2 := hid hx2; have HL2 := hid hl2'; clear hx2 hl2 hl2' hk5a)
                | fail)
            all_goals
              go_wp2_with fail
              go_meet
              case rel => exact ⟨rfl, HST.out.turn HR2.out (hk4.mono (fun j hj => by simp at hj; simp [hj])) HX2.out HL2.out hk5 ((Keeps.refl [] yr).drewN 0)⟩
          · as_aux_lemma =>
            have hcl := clip_le n q.length
            have hRl : (q.take (clip n q.length)).length ≤ 1099511627776 := by rw [List.length_take]; omega
            have hd := peek_any a g S f q n wr (by obtain ⟨s1, -⟩ := HST.out; exact s1)
            obtain ⟨R, hR⟩ : ∃ R, q.take (clip n q.length) = R := ⟨_, rfl⟩
            rw [hR] at hd hRl
            have HR := hid hR
            clear c2 c3 hR hcl
            go_wp2_with fail
            refine hd.mono ?_
            clear hd
            rintro e w3 ⟨v3, rfl, hv3, ho3, hk3⟩
            obtain ⟨A3, q3, rfl, -⟩ := hv3.form
            have d1 := cell_keep hk3 (by simp) c1
            have hd := rpeek_any x S F q n w3 (by
              obtain ⟨s1, s2, -⟩ := HST.out
              exact s2.keeps hk3 (by simp)) (by omega)
            rw [HR.out] at hd
            have HV3 := hid hv3
            have HO3 := hid ho3
            have HK3 := hid hk3
            clear hv3 ho3 hk3 c1
            go_wp2_with fail
            refine hd.mono ?_
            clear hd
            rintro e w4 ⟨v4, rfl, hv4, -, hk4⟩
            obtain ⟨A4, q4, rfl, -⟩ := hv4.form
            have HV3' := hid (HV3.out.keeps hk4 (by simp))
            go_wp2_with fail
            refine (same_any _ _ R R _ (HV3'.out.cellsIn (by simp)) (hv4.cellsIn (by simp))).mono ?_
            rintro e w5 ⟨rfl, hk5⟩
            rw [sameB_self]
            have HV5 := hid (HV3'.out.keeps hk5 (by simp))
            have HK5 := hid ((HK3.out.trans hk4 (by simp)).trans hk5 (by simp))
            clear hv4 hk4 hk5 d1
            go_wp2_with fail
            refine (spoil_any _ _ _ _ HV5.out hRl).mono ?_
            rintro e w6 ⟨⟨r, rfl⟩, hk6⟩
            have HST2 : Hid (RSt w w6 a g x S) := by
              have h5 := HST.out.keeps HK5.out
              have ho : ∀ j ∈ (Value.slice A3 R.length q3).ownBlock.toList, wr.heap.size ≤ j := fun j hj => HO3.out j (by simpa using hj)
              have hgh := HGH.out
              refine ⟨_, _, _, h5.keepsF hk6 (fun hx => ?_) (fun hx => ?_) (fun j hj hx => ?_) (fun j hj => ?_)⟩
              · have := ho _ hx
                omega
              · have := ho _ hx
                omega
              · have := hgh.1 j hj
                have := ho j hx
                omega
              · have := HW0.out.size
                have := ho j hj
                omega
            clear hk6 HV5 HK5 HV3 HV3' HO3 HK3
            go_wp2_with fail
            go_meet
            case rel => exact ⟨rfl, HST2.out⟩
          · as_aux_lemma =>
            have hd := fun W cc (hW : Keeps [] wr W) => find_any a g S f q cc W (by
              obtain ⟨s1, -⟩ := HST.out
              exact s1.keeps hW (by simp) (by simp))
            have hr := fun W cc (hW : Keeps [] wr W) => rfind_any x S F q cc W (by
              obtain ⟨s1, s2, -⟩ := HST.out
              exact s2.keeps hW (by simp)) (by omega)
            have HD := hid hd
            have HR := hid hr
            clear hd hr c2 c3
            go_wp2_with fail
            go_region_held3 (fun w' => w'.cell? ⟨b, o + k * 4 + 1, none⟩ = some (.int .i64 n)) (first | trivial | assumption)
              (first
                | (go_at_call 26; refine (HD.out _ _ (by repeat (first | (with_reducible exact Keeps.refl _ _) | (with_reducible assumption) | (with_reducible refine Keeps.drewN ?_ _) | (with_reducible refine Keeps.drew ?_)))).mono ?_; rintro e yl ⟨rfl, hk4a⟩; have hk4 : Keeps [] wr yl := (by first | exact hk4a.pre | exact hk4a.pre1 | exact hk4a); have d1 := cell_keep hk4 (by simp) c1; clear hk4a)
                | (go_at_call 27; refine (HR.out _ _ (by repeat (first | (with_reducible exact Keeps.refl _ _) | (with_reducible assumption) | (with_reducible refine Keeps.drewN ?_ _) | (with_reducible refine Keeps.drew ?_)))).mono ?_; rintro e yr ⟨rfl, hk5a⟩; have hk5 : Keeps [] yl yr := (by first | exact hk5a.pre | exact hk5a.pre1 | exact hk5a); have hk6 := hk4.trans hk5 (by simp); have d2 := cell_keep hk5 (by simp) d1; clear hk5a)
                | fail)
            all_goals
              go_wp2_with fail
              go_meet
              case rel => exact ⟨rfl, f, F, q, HST.out.keeps (hk6.drewN 0)⟩
          · as_aux_lemma =>
            have m1 : (kd == 1) = false := by simp [n1]
            have m2 : (kd == 2) = false := by simp [n2]
            have m3 : (kd == 3) = false := by simp [n3]
            have m4 : (kd == 4) = false := by simp [n4]
            clear n1 n2 n3 n4 c1 c2 c3
            go_wp2_with fail
            go_meet
            case rel => exact ⟨rfl, f, F, q, HST.out⟩
        case rest =>
          obtain ⟨rfl, hSt3⟩ := hcut
          have HST2 := hid hSt3
          clear hSt3 c0 c1 c2 c3 HST
          obtain ⟨f2, F2, q2, hSt2⟩ := HST2.out
          have HST3 := hid hSt2
          have hq2 := hSt2.len
          obtain ⟨s1, s2, s3, s4, s5, s6, s7, s8, s9⟩ := hSt2
          obtain ⟨XA, xc, cx, -⟩ := rlen x S F2 q2 _ s2
          have HLEN := hid (fun W hW => len_any a q2.length W (s1.keeps (K := []) (w' := W) hW (by simp) (by simp)).c2)
          have HROOM := hid (fun W hW => room_ring a g S f2 q2.length q2 W (s1.keeps (K := []) (w' := W) hW (by simp) (by simp)) rfl)
          have HXR := hid (fun W hW => rroom_any x S F2 q2 W (s2.keeps (K := []) (w' := W) hW (by simp)) hS2 hq2)
          clear s1 s2 s3 s4 s5 s6 s7 s8 s9
          go_wp2_with fail
          go_region_held3 (fun w' => w'.cell? ⟨x, 1, none⟩ = some (.slice XA q2.length xc)) (first | trivial | assumption)
            (first
              | (go_at_call 28; refine (HLEN.out _ (by repeat (first | (with_reducible exact Keeps.refl _ _) | (with_reducible assumption) | (with_reducible refine Keeps.drewN ?_ _) | (with_reducible refine Keeps.drew ?_)))).mono ?_; rintro e yn ⟨rfl, rfl⟩)
              | (go_at_call 29; refine (HROOM.out _ (by repeat (first | (with_reducible exact Keeps.refl _ _) | (with_reducible assumption) | (with_reducible refine Keeps.drewN ?_ _) | (with_reducible refine Keeps.drew ?_)))).mono ?_; rintro e yl ⟨rfl, hk4a⟩; have hk4 : Keeps [] wc yl := (by first | exact hk4a.pre | exact hk4a.pre1 | exact hk4a); have cx4 := cell_keep hk4 (by simp) cx; clear hk4a)
              | (go_at_call 30; refine (HXR.out _ (by repeat (first | (with_reducible exact Keeps.refl _ _) | (with_reducible assumption) | (with_reducible refine Keeps.drewN ?_ _) | (with_reducible refine Keeps.drew ?_)))).mono ?_; rintro e yr ⟨rfl, hk5a⟩; have hk5 : Keeps [] yl yr := (by first | exact hk5a.pre | exact hk5a.pre1 | exact hk5a); have cx5 := cell_keep hk5 (by simp) cx4; have hk45 := hk4.trans hk5 (by simp); clear hk5a)
              | fail)
          all_goals
            go_wp2_with fail
            go_roundw
            case rel => exact ⟨k + 1, by omega, by omega, by go_num, f2, F2, q2, HST3.out.keeps (hk45.drewN 0)⟩
            case measure => simp [intOf] <;> omega
      · obtain ⟨s1, s2, s3, s4, s5, s6, s7, s8, s9⟩ := HST.out
        have hq2 := HST.out.len
        obtain ⟨XA, xc, cx, hxc⟩ := rlen x S F q wr s2
        have HXC := hid hxc
        have S8 := hid s8
        have hn := fun W hW => peek_any a g S f q q.length W (s1.keeps (w' := W) (K := []) hW (by simp) (by simp))
        rw [clip_self', List.take_length] at hn
        have HN := hid hn
        clear s1 s2 s3 s4 s5 s6 s7 hxc hn s8 HST
        rcases (by omega : ¬ k < l.length ∨ (k < l.length ∧ ¬ k < 150)) with h | ⟨h0, h⟩
        all_goals
          go_wp2_with fail
          go_region_held3 (fun w' => w'.cell? ⟨x, 1, none⟩ = some (.slice XA q.length xc)) (first | trivial | assumption)
            (first
              | (go_at_call 23; refine (HN.out _ (by repeat (first | exact Keeps.refl _ _ | apply Keeps.drewN | apply Keeps.drew))).mono ?_; rintro e w3 ⟨v3, rfl, hv3, -, hk3a⟩; have hk3 : Keeps [] wr w3 := (by first | exact hk3a.pre | exact hk3a.pre1 | exact hk3a); have cx3 := cell_keep hk3 (by simp) cx; have HV3 := hid (hv3.cellsIn (F := []) (by simp)); have HK3 := hid (S8.out.trans hk3 (by simp)); have HX3 := hid (HXC.out.keeps hk3 (by simp)); clear hv3 hk3 hk3a)
              | (go_at_call 24; refine (same_any _ _ q q _ (by exact HV3.out) (by exact HX3.out)).mono ?_; rintro e w6 ⟨rfl, hk6a⟩; rw [sameB_self]; have hk6 : Keeps [] w3 w6 := (by first | exact hk6a.pre | exact hk6a.pre1 | exact hk6a); have cx6 := cell_keep hk6 (by simp) cx3; have HK6 := hid (HK3.out.trans hk6 (by simp)); clear hk6 hk6a)
              | (go_at_call 13; refine (known_any _).mono ?_; rintro e w9 ⟨rfl, hk9a⟩; have hk9 : Keeps [] w6 w9 := (by first | exact hk9a.pre | exact hk9a.pre1 | exact hk9a); have cx9 := cell_keep hk9 (by simp) cx6))
          all_goals
            go_wp2
            go_ret
            exact ⟨rfl, (HK6.out.trans hk9 (by simp)).below (Nat.le_refl _) (by simp)⟩
end Go.Proofs.Ytkcncnbjojejeaa
