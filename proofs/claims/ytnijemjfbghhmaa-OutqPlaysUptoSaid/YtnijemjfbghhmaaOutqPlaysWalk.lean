/- The walk of OutqPlays. -/
import Derived.Test.YtnijemjfbghhmaaOutq9
import Derived.Deep.DeepCutAuto
import Derived.Deep.CutBlock
import Derived.Deep.DrawnRows
namespace Go.Proofs.Ytnijemjfbghhmaa
open Go.RowKit
attribute [local go_sem ↓] Go.wp_at_zero Go.wp_at_succ
set_option maxRecDepth 100000 in
set_option maxHeartbeats 16000000 in
theorem outqPlays_walk (w : World) (lv : Value) (l : List ActD) (hl : ActsIn w lv l) (hs : ∀ a ∈ l, a.b.length ≤ 1048576 ∧ a.c.length ≤ 1048576) :
    Calls Try.prog 5 #[lv] w fun e w' => e = .returned (.bool true) ∧ Below w.heap.size w w' := by
  have HL := hid hl
  have HS := hid hs
  obtain ⟨A, c, rfl, h1, h2⟩ := hl.shape
  clear hl hs
  go_enter Try.func5, Try.ntmps5
  go_wp2_with fail
  refine (heavy_any _ l w HL.out HS.out).mono ?_
  rintro e w1 ⟨⟨r, rfl⟩, hk1⟩
  cases r with
  | true =>
    go_wp2_with (go_at_call 15; refine (known_any _).mono ?_; rintro e w11 ⟨rfl, hk11⟩)
    go_ret
    exact ⟨rfl, (hk1.trans hk11 (by simp)).below (Nat.le_refl _) (by simp)⟩
  | false =>
    go_wp2_with fail
    refine (newq _).mono ?_
    rintro e w2 ⟨rfl, hq, hk2⟩
    obtain ⟨q, hqe⟩ : ∃ q, w1.heap.size = q := ⟨_, rfl⟩
    rw [hqe] at hq
    rw [hqe]
    have hql : w.heap.size ≤ q := by have := hk1.size; omega
    have hst : Hid (St w (w2.alloc (.cells #[.slice none 0 0, .slice none 0 0, .int .i64 0, .int .i64 0, .int .i64 0] 41)) q w2.heap.size 0) := by
      have hx : w.heap.size ≤ w2.heap.size := Nat.le_trans hk1.size hk2.size
      have hqx : q < w2.heap.size := hq.flt q (by simp)
      exact ⟨[q], [w2.heap.size], [], [], 0, 0, hq.keeps ((Keeps.refl [] w2).alloc _) (by simp), RQ.zero w2, by simp [pcs, Sized], by simp [lastOf], by simp, by omega, by simp, by simp, by simpa using hql, by simpa using hx, by simp; omega, (hk1.trans hk2 (by simp)).alloc _⟩
    obtain ⟨x, hxe⟩ : ∃ x, w2.heap.size = x := ⟨_, rfl⟩
    rw [hxe] at hst
    clear hq hk1 hqe hql
    go_wp2_with fail
    go_loopw [5, 6, 7, 8, 9] (fun i _ _ _ _ wr => ∃ k : Nat, k ≤ l.length ∧ k ≤ 150 ∧ i = .int .i64 k ∧ St w wr q x k) (fun i _ _ _ _ _ => l.length - (intOf i).toNat)
    case atStart => exact ⟨0, Nat.zero_le _, by omega, rfl, hst.out⟩
    case round =>
      clear hst hk2 hxe
      obtain ⟨k, hk, hk150, rfl, G, H, bs, es, g, t, hSt⟩ := hrel
      have HST := hid hSt
      clear hSt
      by_cases hlt : k < l.length ∧ k < 150
      · obtain ⟨hl1, hl2⟩ := hlt
        obtain ⟨a, ha⟩ : ∃ a, l[k]? = some a := ⟨l[k], by simp [hl1]⟩
        have hw0 : Keeps [] w wr := by
          obtain ⟨_, _, _, _, _, _, _, _, _, _, _, h⟩ := HST.out
          exact h
        have HLr := hid (HL.out.keeps hw0)
        obtain ⟨b, o, rfl, hc⟩ := HLr.out.at_ (by omega)
        have hbw : b < w.heap.size := by
          obtain ⟨ob, oo, hbo, hcc⟩ := HL.out.at_ (by omega)
          injection hbo with hbo
          injection hbo with e1 e2 _
          subst e1 e2
          exact World.block_lt_of_cell? w _ (hcc k a ha).1
        have hrow := HLr.out.rows a (List.mem_of_getElem? ha)
        have hrowW := HL.out.rows a (List.mem_of_getElem? ha)
        have hsz := HS.out a (List.mem_of_getElem? ha)
        obtain ⟨c0, c1, c2, c3⟩ := hc k a ha
        obtain ⟨kd, n, bv, zb, cv, zc⟩ := a
        simp only at hrow hrowW hsz c0 c1 c2 c3
        obtain ⟨z1, z2⟩ := hsz
        obtain ⟨BA, bc, rfl, -, -⟩ := hrow.1.shape
        obtain ⟨CA, cc, rfl, -, -⟩ := hrow.2.shape
        simp only [List.length_map] at hrow hrowW c2 c3
        have HB := hid hrow.1
        have HC := hid hrow.2
        have HBW := hid hrowW.1
        have HCW := hid hrowW.2
        have HW0 := hid hw0
        clear hc hrow hrowW ha hw0
        go_upto_block 2 with (fail)
        go_cut [6, 7, 8, 9] (fun s6 _ _ _ wx => s6 = .bool true ∧ St w wx q x (k + 1))
        case first =>
          rcases (by omega : kd = 1 ∨ kd = 2 ∨ kd = 3 ∨ kd = 4 ∨ (kd ≠ 1 ∧ kd ≠ 2 ∧ kd ≠ 3 ∧ kd ≠ 4)) with rfl | rfl | rfl | rfl | ⟨n1, n2, n3, n4⟩
          · as_aux_lemma =>
              have hb : bs.length + 2097152 ≤ 1099511627776 ∧ es.length ≤ 1099511627776 ∧ 0 ≤ g ∧ g ≤ 1099511627776 ∧ t ≤ es.length := by
                obtain ⟨s1, s2, s3, s4, s5, s6, s7, s8, s9, s10, s11, s12⟩ := HST.out
                omega
              obtain ⟨hb1, hb2, hb3, hb4, hb5⟩ := hb
              have hfl : (zb ++ zc).length ≤ 2097152 := by rw [List.length_append]; omega
              have HFL := hid hfl
              have hra := fun W (hW : Keeps [] wr W) => roomy_any (.slice BA zb.length bc) zb W (HB.out.keeps hW (by simp)) (by omega)
              have hrb := fun W (hW : Keeps [] wr W) => roomy_any (.slice CA zc.length cc) zc W (HC.out.keeps hW (by simp)) (by omega)
              have HRA := hid hra
              have HRB := hid hrb
              clear hra hrb c1 hfl
              go_wp2_with fail
              go_region_held3 (fun w' => w'.cell? ⟨b, o + k * 4 + 2, none⟩ = some (.slice BA zb.length bc) ∧ w'.cell? ⟨b, o + k * 4 + 3, none⟩ = some (.slice CA zc.length cc)) (first | trivial | assumption | exact ⟨by assumption, by assumption⟩)
                (first
                  | (go_at_call_of 18 (Value.slice BA zb.length bc); refine (HRA.out _ (by repeat (first | assumption | exact Keeps.refl _ _ | apply Keeps.drewN | apply Keeps.drew))).mono ?_; rintro e wa ⟨A1, q1, rfl, ra, oa, ka1⟩; have ka : Keeps [] wr wa := (by first | exact ka1.pre | exact ka1.pre1 | exact ka1); have oa' : ∀ j, (Value.slice A1 (zb.length + 1) q1).ownBlock = some j → wr.heap.size ≤ j := (by intro j hj; have := oa j hj; simpa using this); have c2a := cell_keep ka (by simp) c2; have c3a := cell_keep ka (by simp) c3; have HA1 := hid ra; have HOA := hid oa'; clear ra oa oa' ka1)
                  | (go_at_call_of 18 (Value.slice CA zc.length cc); refine (HRB.out _ (by repeat (first | assumption | exact Keeps.refl _ _ | apply Keeps.drewN | apply Keeps.drew))).mono ?_; rintro e wb ⟨A2, q2, rfl, rb, ob, kb1⟩; have kb : Keeps [] wa wb := (by first | exact kb1.pre | exact kb1.pre1 | exact kb1); have ob' : ∀ j, (Value.slice A2 (zc.length + 1) q2).ownBlock = some j → wa.heap.size ≤ j := (by intro j hj; have := ob j hj; simpa using this); have c2b := cell_keep kb (by simp) c2a; have c3b := cell_keep kb (by simp) c3a; have HA2 := hid rb; have HOB := hid ob'; clear rb ob ob' kb1)
                  | fail)
              all_goals
                have kab := ka.trans kb (by simp)
                have HA1b := hid (HA1.out.keeps kb (by simp))
                have hq1 : (zb.length : Int) ≤ q1 := by obtain ⟨_, _, hv, h, -⟩ := HA1.out.form; injection hv with _ _ hc; subst hc; omega
                have hq2 : (zc.length : Int) ≤ q2 := by obtain ⟨_, _, hv, h, -⟩ := HA2.out.form; injection hv with _ _ hc; subst hc; omega
                have HSTb := hid (HST.out.keeps kab)
                have hgh : (∀ j ∈ G, j < wr.heap.size) ∧ (∀ j ∈ H, j < wr.heap.size) ∧ (∀ j ∈ G, w.heap.size ≤ j) ∧ (∀ j ∈ H, w.heap.size ≤ j) ∧ (∀ j ∈ G, j ∉ H) := by
                  obtain ⟨s1, s2, s3, s4, s5, s6, s7, s8, s9, s10, s11, s12⟩ := HST.out
                  exact ⟨s1.flt, s2.flt, s9, s10, s11⟩
                have HGH := hid hgh
                have hbG : b ∉ G := fun hx => by have := HGH.out.2.2.1 _ hx; omega
                have hbH : b ∉ H := fun hx => by have := HGH.out.2.2.2.1 _ hx; omega
                have HBG := hid hbG
                have HBH := hid hbH
                have hwsz : wr.heap.size ≤ wb.heap.size := kab.size
                have hadd := fun W H0 (hW : Keeps [] wb W) (hB : Blk W H0 24 #[.slice A1 zb.length q1, .slice A2 zc.length q2]) (hH : wb.heap.size ≤ H0) =>
                  add2 q G bs (pcs g t (es.drop t)) es.length (.slice A1 zb.length q1) (.slice A2 zc.length q2) zb zc wb W H0 (by
                    obtain ⟨s1, -⟩ := HSTb.out
                    exact s1) hW hB hH (by
                    have h := (HA1b.out.upto (k := zb.length) (by omega)).cellsIn (F := G) (fun j hj hx => by
                      have h1 := HOA.out j (by cases A1 with
                        | none => cases hj
                        | some a => exact hj)
                      have := HGH.out.1 j hx
                      omega)
                    rw [show (bytesV (zb ++ [171])).take (zb.length * 1) = bytesV zb by rw [Nat.mul_one]; simp [bytesV]] at h
                    exact h) (by
                    have h := (HA2.out.upto (k := zc.length) (by omega)).cellsIn (F := G) (fun j hj hx => by
                      have h1 := HOB.out j (by cases A2 with
                        | none => cases hj
                        | some a => exact hj)
                      have := HGH.out.1 j hx
                      have := ka.size
                      omega)
                    rw [show (bytesV (zc ++ [171])).take (zc.length * 1) = bytesV zc by rw [Nat.mul_one]; simp [bytesV]] at h
                    exact h) (by omega) (by omega) (by have := HFL.out; omega) (by rw [pcs_length, List.length_drop]; omega)
                have hradd := fun W1 W H0 (hW1 : Keeps G wb W1) (hW : Keeps [] W1 W) (hB : Blk W H0 24 #[.slice BA zb.length bc, .slice CA zc.length cc]) (hH : wb.heap.size ≤ H0) =>
                  radd2 x H bs es g t (.slice BA zb.length bc) (.slice CA zc.length cc) zb zc W1 W H0 (by
                    obtain ⟨s1, s2, -⟩ := HSTb.out
                    exact s2.keeps hW1 (fun j hj hx => HGH.out.2.2.2.2 j hx hj)) hW hB (fun hx => by have := HGH.out.2.1 _ hx; omega)
                    ((((HBW.out.old (G := G ++ H) (fun j hj => by
                      rcases List.mem_append.1 hj with h | h
                      · exact HGH.out.2.2.1 j h
                      · exact HGH.out.2.2.2.1 j h)).keeps (HW0.out.trans kab (by simp)) (by simp)).keeps hW1 (fun j hj => .inl (by simp [hj]))).mono (fun j hj => by simp [hj]))
                    ((((HCW.out.old (G := G ++ H) (fun j hj => by
                      rcases List.mem_append.1 hj with h | h
                      · exact HGH.out.2.2.1 j h
                      · exact HGH.out.2.2.2.1 j h)).keeps (HW0.out.trans kab (by simp)) (by simp)).keeps hW1 (fun j hj => .inl (by simp [hj]))).mono (fun j hj => by simp [hj]))
                    hb3 hb4 (by have := HFL.out; omega) hb2
                have ha1 : ∀ j, (Value.slice A1 (zb.length + 1) q1).ownBlock = some j → j ∉ G ++ H := fun j hj hx => by
                  have h1 := HOA.out j hj
                  rcases List.mem_append.1 hx with h | h
                  · have := HGH.out.1 j h
                    omega
                  · have := HGH.out.2.1 j h
                    omega
                have ha2 : ∀ j, (Value.slice A2 (zc.length + 1) q2).ownBlock = some j → j ∉ G ++ H := fun j hj hx => by
                  have h1 := HOB.out j hj
                  have h2 := ka.size
                  rcases List.mem_append.1 hx with h | h
                  · have := HGH.out.1 j h
                    omega
                  · have := HGH.out.2.1 j h
                    omega
                have HRA1 := hid (fun W (hW : Keeps (G ++ H) wb W) => HA1b.out.keeps hW ha1)
                have HRA2 := hid (fun W (hW : Keeps (G ++ H) wb W) => HA2.out.keeps hW ha2)
                have HBC := hid (fun W (hW : Keeps (G ++ H) wb W) => (((HBW.out.old (G := G ++ H) (fun j hj => by
                      rcases List.mem_append.1 hj with h | h
                      · exact HGH.out.2.2.1 j h
                      · exact HGH.out.2.2.2.1 j h)).keeps (HW0.out.trans kab (by simp)) (by simp)).keeps hW (fun j hj => .inl hj)).mono (G := []) (by simp))
                have HCC := hid (fun W (hW : Keeps (G ++ H) wb W) => (((HCW.out.old (G := G ++ H) (fun j hj => by
                      rcases List.mem_append.1 hj with h | h
                      · exact HGH.out.2.2.1 j h
                      · exact HGH.out.2.2.2.1 j h)).keeps (HW0.out.trans kab (by simp)) (by simp)).keeps hW (fun j hj => .inl hj)).mono (G := []) (by simp))
                have HF7 : Hid (∀ j ∈ (Value.slice A1 (zb.length + 1) q1).ownBlock.toList, wr.heap.size ≤ j ∧ j < wb.heap.size) := hid (fun j hj => by
                  have h1 := HOA.out j (by simpa using hj)
                  have h2 := HA1b.out.lt j (by simpa using hj)
                  exact ⟨h1, h2⟩)
                have HF8 : Hid (∀ j ∈ (Value.slice A2 (zc.length + 1) q2).ownBlock.toList, wr.heap.size ≤ j ∧ j < wb.heap.size) := hid (fun j hj => by
                  have h1 := HOB.out j (by simpa using hj)
                  have h2 := HA2.out.lt j (by simpa using hj)
                  have h3 := ka.size
                  exact ⟨by omega, h2⟩)
                have HNE : Hid (∀ j, (Value.slice A2 (zc.length + 1) q2).ownBlock = some j → j ∉ (Value.slice A1 (zb.length + 1) q1).ownBlock.toList) := hid (fun j hj hx => by
                  have h1 := HOB.out j hj
                  have h2 := HA1.out.lt j (by simpa using hx)
                  omega)
                clear ha1 ha2
                have HADD := hid hadd
                have tok1 : True := trivial
                have HRADD := hid hradd
                clear hadd hradd hgh hbG hbH c2 c3 c2a c3a
                go_wp2_with fail
                go_region_held3 (fun w' => w'.cell? ⟨b, o + k * 4 + 2, none⟩ = some (.slice BA zb.length bc) ∧ w'.cell? ⟨b, o + k * 4 + 3, none⟩ = some (.slice CA zc.length cc)) (first | trivial | assumption | (refine ⟨?_, ?_⟩ <;> (repeat (first | (with_reducible assumption) | (with_reducible refine alloc_cell ?_ _) | (with_reducible refine drew_cell ?_) | (with_reducible refine drewN_cell ?_ _)))))
                  (first
                    | (go_at_call 9; refine (HADD.out _ _ (by repeat (first | (with_reducible exact Keeps.refl _ _) | (with_reducible assumption) | (with_reducible refine Keeps.drewN ?_ _) | (with_reducible refine Keeps.drew ?_) | (with_reducible refine Keeps.alloc ?_ _))) (by repeat (first | (with_reducible refine Blk.drew ?_) | (with_reducible refine Blk.drewN ?_ _) | (with_reducible exact Blk.newAt (by simp)) | (with_reducible refine Blk.alloc ?_ _))) (by simp)).mono ?_; rintro e wq ⟨rfl, ⟨G', hq', hl'⟩, hkq0⟩; have hkq : Keeps G wb wq := (Keeps.trans (by repeat (first | (with_reducible exact Keeps.refl _ _) | (with_reducible assumption) | (with_reducible refine Keeps.drewN ?_ _) | (with_reducible refine Keeps.drew ?_) | (with_reducible refine Keeps.alloc ?_ _))) hkq0 (fun j hj => .inl hj)); have HBK := hid (fun (j : Nat) (cs : Array Value) (hB : Blk _ j 24 cs) (hG : j ∉ G) => hB.keeps hkq0 hG); have d2 := cell_keep hkq HBG.out c2b; have d3 := cell_keep hkq HBG.out c3b; have HQ' := hid hq'; have HL' := hid hl'; clear hq' hl' hkq0)
                    | (go_at_call 19; refine (HRADD.out wq _ _ hkq (by repeat (first | (with_reducible exact Keeps.refl _ _) | (with_reducible assumption) | (with_reducible refine Keeps.drewN ?_ _) | (with_reducible refine Keeps.drew ?_) | (with_reducible refine Keeps.alloc ?_ _))) (by first | (refine HBK.out _ _ (by repeat (first | (with_reducible refine Blk.drew ?_) | (with_reducible refine Blk.drewN ?_ _) | (with_reducible exact Blk.newAt (by simp)) | (with_reducible refine Blk.alloc ?_ _))) (fun hx => by have h1 := HGH.out.1 _ hx; first | omega | (simp at h1; omega))) | (repeat (first | (with_reducible refine Blk.drew ?_) | (with_reducible refine Blk.drewN ?_ _) | (with_reducible exact Blk.newAt (by simp)) | (with_reducible refine Blk.alloc ?_ _)))) (by have h1 := hkq.size; first | omega | (simp; omega))).mono ?_; rintro e wx ⟨rfl, ⟨H', hr', hm'⟩, hkx0⟩; have hkx : Keeps H wq wx := (Keeps.trans (by repeat (first | (with_reducible exact Keeps.refl _ _) | (with_reducible assumption) | (with_reducible refine Keeps.drewN ?_ _) | (with_reducible refine Keeps.drew ?_) | (with_reducible refine Keeps.alloc ?_ _))) hkx0 (fun j hj => .inl hj)); have d4 := cell_keep hkx HBH.out d2; have d5 := cell_keep hkx HBH.out d3; have HR' := hid hr'; have HM' := hid hm'; have hgx : Keeps (G ++ H) wb wx := (hkq.mono (G := G ++ H) (fun j hj => by simp [hj])).trans hkx (fun j hj => .inl (by simp [hj])); clear hr' hm' hkx0)
                    | (go_at_call 20; have _t := tok1; refine (stands_any _ _ zb _ ((HRA1.out _ (by repeat (first | (with_reducible assumption) | (with_reducible refine Keeps.drewN ?_ _) | (with_reducible refine Keeps.drew ?_)))).cellsIn (by simp)) (HBC.out _ (by repeat (first | (with_reducible assumption) | (with_reducible refine Keeps.drewN ?_ _) | (with_reducible refine Keeps.drew ?_))))).mono ?_; rintro e ws ⟨rfl, hks0⟩; have hks : Keeps [] wx ws := (by first | exact hks0.pre | exact hks0.pre1 | exact hks0); have hgs : Keeps (G ++ H) wb ws := hgx.trans hks (by simp); have d6 := cell_keep hks (by simp) d4; have d7 := cell_keep hks (by simp) d5; clear hks0 tok1 _t)
                    | (go_at_call 20; refine (stands_any _ _ zc _ ((HRA2.out _ (by repeat (first | (with_reducible assumption) | (with_reducible refine Keeps.drewN ?_ _) | (with_reducible refine Keeps.drew ?_)))).cellsIn (by simp)) (HCC.out _ (by repeat (first | (with_reducible assumption) | (with_reducible refine Keeps.drewN ?_ _) | (with_reducible refine Keeps.drew ?_))))).mono ?_; rintro e wt ⟨rfl, hkt0⟩; have hkt1 : Keeps [] ws wt := (by first | exact hkt0.pre | exact hkt0.pre1 | exact hkt0); have hkt := hks.trans hkt1 (by simp); have hgt : Keeps (G ++ H) wb wt := hgs.trans hkt1 (by simp); have d8 := cell_keep hkt1 (by simp) d6; have d9 := cell_keep hkt1 (by simp) d7; clear hkt0)
                    | fail)
                all_goals
                  clear HADD HRADD HBK HBC HCC
                  go_wp2_with fail
                  refine (spoil_any _ _ _ _ (HRA1.out _ (by repeat (first | (with_reducible assumption) | (with_reducible refine Keeps.drewN ?_ _) | (with_reducible refine Keeps.drew ?_)))) (by omega)).mono ?_
                  rintro e w7 ⟨⟨r7, rfl⟩, hk7a⟩
                  have hk7 : Keeps (Value.slice A1 (zb.length + 1) q1).ownBlock.toList wt w7 := (by first | exact hk7a.pre | exact hk7a.pre1 | exact hk7a)
                  have HK7 := hid hk7
                  have HR7 := hid ((HRA2.out _ hgt).keeps hk7 HNE.out)
                  clear hk7a hk7
                  go_wp2_with fail
                  refine (spoil_any _ _ _ _ HR7.out (by omega)).mono ?_
                  rintro e w8 ⟨⟨r8, rfl⟩, hk8⟩
                  have HDONE := hid (plays_add_done HST.out kab HQ'.out HL'.out hkq HR'.out HM'.out hkx hkt HK7.out hk8 HF7.out HF8.out HFL.out)
                  clear hk8
                  go_wp2_with fail
                  go_meet
                  case rel => exact ⟨rfl, HDONE.out⟩
          · as_aux_lemma =>
              have hb : bs.length ≤ 1099511627776 ∧ es.length ≤ 1099511627776 ∧ 0 ≤ g ∧ g ≤ 1099511627776 ∧ t ≤ es.length := by
                obtain ⟨s1, s2, s3, s4, s5, s6, s7, s8, s9, s10, s11, s12⟩ := HST.out
                omega
              obtain ⟨hb1, hb2, hb3, hb4, hb5⟩ := hb
              obtain ⟨cl, hcl⟩ : ∃ cl, clip n bs.length = cl := ⟨_, rfl⟩
              have hclb : cl ≤ bs.length := by rw [← hcl]; exact clip_le _ _
              obtain ⟨T, hT1, hT2, hT3, hT4⟩ := settle_pcs (es.drop t) g t cl
              have hT0 : t + T ≤ es.length := by
                rw [List.length_drop] at hT1
                omega
              have hT5 : ∀ i e, i < T → es[t + i]? = some e → e ≤ g + cl := fun i e hi he => hT3 i e hi (by rw [List.getElem?_drop]; exact he)
              have hT6 : ∀ e, es[t + T]? = some e → g + cl < e := fun e he => hT4 e (by rw [List.getElem?_drop]; exact he)
              have hd := fun W (hW : Keeps [] wr W) => done_any q G bs (pcs g t (es.drop t)) es.length n W (by
                obtain ⟨s1, -⟩ := HST.out
                exact s1.keeps hW (by simp)) hb1 (by rw [pcs_length, List.length_drop]; omega) (by
                obtain ⟨s1, s2, s3, -⟩ := HST.out
                exact s3)
              rw [hcl] at hd
              have hsz2 := sized_settle (pcs g t (es.drop t)) cl (by
                obtain ⟨s1, s2, s3, -⟩ := HST.out
                exact s3) (by omega)
              rw [hT2] at hd hsz2
              have HD := hid hd
              have HSZ2 := hid hsz2
              have hr := fun W (hW : Keeps G wr W) => rdone_any x H bs es g t n W (by
                obtain ⟨s1, s2, s3, s4, s5, s6, s7, s8, s9, s10, s11, s12⟩ := HST.out
                exact s2.keeps hW (fun j hj hx => s11 j hx hj)) hb3 hb4 hb5 hb1 hb2
              rw [hcl] at hr
              have HR := hid hr
              have HT := hid (⟨hT0, hT5, hT6⟩ : _ ∧ _ ∧ _)
              have HCL := hid hclb
              have HS11 : Hid (∀ j ∈ G, b ≠ j) := by
                obtain ⟨s1, s2, s3, s4, s5, s6, s7, s8, s9, s10, s11, s12⟩ := HST.out
                intro j hj hx
                have h1 := s9 j hj
                omega
              have HTV : Hid (∀ T' : Nat, (List.range T').map (fun i : Nat => (t : Int) + 1 + i) = toldV t T') := fun _ => rfl
              clear hd hr hT0 hT1 hT2 hT3 hT4 hT5 hT6 hsz2 c2 c3 hcl hclb
              go_wp2_with fail
              go_region_held3 (fun w' => w'.cell? ⟨b, o + k * 4 + 1, none⟩ = some (.int .i64 n)) (first | trivial | assumption)
                (first
                  | (go_at_call 12; refine (HD.out _ (by repeat (first | assumption | exact Keeps.refl _ _ | apply Keeps.drewN | apply Keeps.drew))).mono ?_; rintro e yl ⟨⟨v4, rfl, hv4, ho4⟩, ⟨G4, hq4, hl4, hn4⟩, hk4a⟩; have hk4 : Keeps G wr yl := (by first | exact hk4a.pre | exact hk4a.pre1 | exact hk4a); rw [HTV.out] at hv4; have hn4 := hn4 _ rfl; obtain ⟨A4, q4, rfl, -⟩ := hv4.form; have d1 := cell_keep hk4 (fun hx => HS11.out b hx rfl) c1; have HV4 := hid hv4; have HO4 := hid ho4; have HQ4 := hid hq4; have HL4 := hid hl4; have HN4 := hid hn4; clear hv4 ho4 hq4 hl4 hk4a hn4)
                  | (go_at_call 22; refine (HR.out _ (by repeat (first | assumption | exact Keeps.refl _ _ | apply Keeps.drewN | apply Keeps.drew))).mono ?_; rintro e yr ⟨T', ht', ⟨v5, rfl, hv5, ho5⟩, ⟨H5, hr5, hl5⟩, ha5, hb5', hk5a⟩; obtain rfl := told_one HT.out.1 ht' HT.out.2.1 HT.out.2.2 ha5 hb5'; obtain ⟨A5, q5, rfl, -⟩ := hv5.form; have hk5 : Keeps H yl yr := (by first | exact hk5a.pre | exact hk5a.pre1 | exact hk5a); have HOX : Hid (∀ j, (Value.slice A4 (toldV t T).length q4).ownBlock = some j → j ∉ H) := (by obtain ⟨s1, s2, -⟩ := HST.out; intro j hj hx; have h1 := HO4.out j hj; have h2 := s2.flt j hx; simp at h1; omega); have e1 := cell_keep hk5 (by obtain ⟨s1, s2, s3, s4, s5, s6, s7, s8, s9, s10, s11, s12⟩ := HST.out; intro hx; have := s10 b hx; omega) d1; have HV45 := hid (HV4.out.keeps hk5 HOX.out); have HV5 := hid hv5; have HR5 := hid hr5; have HL5 := hid hl5; clear hv5 ho5 hr5 hl5 ha5 hb5' hk5a ht')
                  | (go_at_call 16; refine (ints_any _ _ (toldV t T) (toldV t T) _ (by exact HV45.out.ints2) (by exact HV5.out.ints2)).mono ?_; rintro e yi ⟨rfl, hk6a⟩; rw [sameB_self]; have hk6 : Keeps [] yr yi := (by first | exact hk6a.pre | exact hk6a.pre1 | exact hk6a); have e2 := cell_keep hk6 (by simp) e1)
                  | fail)
              all_goals
                go_wp2_with fail
                go_meet
                case rel =>
                  refine ⟨rfl, ?_⟩
                  obtain ⟨s1, s2, s3, s4, s5, s6, s7, s8, s9, s10, s11, s12⟩ := HST.out
                  have l4 : ∀ j ∈ G4, j ∈ G ∨ wr.heap.size ≤ j := fun j hj => by
                    have := HL4.out j hj
                    simpa using this
                  have g4H : ∀ j ∈ G4, j ∉ H := fun j hj hx => by
                    rcases l4 j hj with h | h
                    · exact s11 j h hx
                    · have := s2.flt j hx
                      omega
                  have l5 : ∀ j ∈ H5, j ∈ H ∨ yl.heap.size ≤ j := fun j hj => by
                    have := HL5.out j hj
                    simpa using this
                  have hw1 := HW0.out.size
                  have hw2 := hk4.size
                  have k7 := hk6.drewN 0
                  exact St.done (G := G4) (H := H5) ((HQ4.out.keeps hk5 g4H).keeps k7 (by simp)) (HR5.out.keeps k7 (by simp)) HSZ2.out s4 HT.out.1 s6 s7 s8 HCL.out HT.out.2.1
                    (fun j hj => by
                      rcases l4 j hj with h | h
                      · exact s9 j h
                      · omega)
                    (fun j hj => by
                      rcases l5 j hj with h | h
                      · exact s10 j h
                      · omega)
                    (fun j hj hx => by
                      rcases l5 j hx with h | h
                      · exact g4H j hj h
                      · have := HQ4.out.flt j hj
                        omega)
                    (((s12.trans hk4 (fun j hj => .inr (s9 j hj))).trans hk5 (fun j hj => .inr (s10 j hj))).trans k7 (by simp))
          · as_aux_lemma =>
              have hb : bs.length ≤ 1099511627776 := by
                obtain ⟨s1, s2, s3, s4, s5, s6, s7, s8, s9, s10, s11, s12⟩ := HST.out
                omega
              have hcl := clip_le n bs.length
              have hRl : (bs.take (clip n bs.length)).length ≤ 1099511627776 := by rw [List.length_take]; omega
              have hd := next_any q G bs (pcs g t (es.drop t)) es.length n wr (by obtain ⟨s1, -⟩ := HST.out; exact s1) hb
              obtain ⟨R, hR⟩ : ∃ R, bs.take (clip n bs.length) = R := ⟨_, rfl⟩
              rw [hR] at hd hRl
              have HR := hid hR
              clear c2 c3 hR hcl
              go_wp2_with fail
              refine hd.mono ?_
              clear hd
              rintro e w3 ⟨v3, rfl, hv3, ho3, hk3⟩
              obtain ⟨A3, q3, rfl, -⟩ := hv3.form
              have d1 := cell_keep hk3 (by simp) c1
              have hd := rnext_any x H bs es g t n w3 (by
                obtain ⟨s1, s2, -⟩ := HST.out
                exact s2.keeps hk3 (by simp)) hb
              rw [HR.out] at hd
              have HV3 := hid hv3
              have HO3 := hid ho3
              have HK3 := hid hk3
              clear hv3 ho3 hk3 c1
              go_wp2_with fail
              refine hd.mono ?_
              clear hd
              rintro e w4 ⟨v4, rfl, hv4, -, hk4⟩
              obtain ⟨A4, q4, rfl, -⟩ := hv4.form
              have HV3' := hid (HV3.out.keeps hk4 (by simp))
              go_wp2_with fail
              refine (same_any _ _ R R _ (HV3'.out.cellsIn (by simp)) (hv4.cellsIn (by simp))).mono ?_
              rintro e w5 ⟨rfl, hk5⟩
              rw [sameB_self]
              have HV5 := hid (HV3'.out.keeps hk5 (by simp))
              have HK5 := hid ((HK3.out.trans hk4 (by simp)).trans hk5 (by simp))
              clear hv4 hk4 hk5 d1
              go_wp2_with fail
              refine (spoil_any _ _ _ _ HV5.out hRl).mono ?_
              rintro e w6 ⟨⟨r, rfl⟩, hk6⟩
              have HST2 : Hid (St w w6 q x (k + 1)) := by
                have h5 := HST.out.keeps HK5.out
                obtain ⟨s1, s2, -⟩ := HST.out
                have ho : ∀ j ∈ (Value.slice A3 R.length q3).ownBlock.toList, wr.heap.size ≤ j := fun j hj => HO3.out j (by simpa using hj)
                refine ⟨_, _, _, _, _, _, (h5.keepsF hk6 (fun j hj hx => ?_) (fun j hj hx => ?_) (fun j hj => ?_)).more⟩
                · have := s1.flt j hj
                  have := ho j hx
                  omega
                · have := s2.flt j hj
                  have := ho j hx
                  omega
                · have := HW0.out.size
                  have := ho j hj
                  omega
              clear hk6 HV5 HK5 HV3 HV3' HO3 HK3
              go_wp2_with fail
              go_meet
              case rel => exact ⟨rfl, HST2.out⟩
          · as_aux_lemma =>
              have hd := drop_any q G bs (pcs g t (es.drop t)) es.length wr (by obtain ⟨s1, -⟩ := HST.out; exact s1)
              clear c1 c2 c3
              go_wp2_with fail
              refine hd.mono ?_
              clear hd
              rintro e w3 ⟨rfl, hq3, hk3⟩
              have HQ3 := hid hq3
              have HK3 := hid hk3
              have hd := rdrop_any x H bs es g t w3 (by
                obtain ⟨s1, s2, s3, s4, s5, s6, s7, s8, s9, s10, s11, s12⟩ := HST.out
                exact s2.keeps hk3 (fun j hj hx => s11 j hx hj)) (by
                obtain ⟨s1, s2, s3, s4, s5, s6, s7, s8, s9, s10, s11, s12⟩ := HST.out
                exact s5) (by
                obtain ⟨s1, s2, s3, s4, s5, s6, s7, s8, s9, s10, s11, s12⟩ := HST.out
                omega)
              clear hq3 hk3
              go_wp2_with fail
              refine hd.mono ?_
              clear hd
              rintro e w4 ⟨rfl, es', hel, hr4, hk4⟩
              have HST2 : Hid (St w w4 q x (k + 1)) := by
                obtain ⟨s1, s2, s3, s4, s5, s6, s7, s8, s9, s10, s11, s12⟩ := HST.out
                have e1 : es'.drop es.length = [] := List.drop_eq_nil_of_le (by omega)
                have hq4 := HQ3.out.keeps hk4 (fun j hj => s11 j hj)
                refine ⟨G, H, [], es', g, es.length, ?_, hr4, ?_, ?_, by omega, s6, ?_, by omega, s9, s10, s11, (s12.trans HK3.out (fun j hj => .inr (s9 j hj))).trans hk4 (fun j hj => .inr (s10 j hj))⟩
                · rw [e1, hel]
                  exact hq4
                · rw [e1]
                  simp [pcs, Sized]
                · rw [e1]
                  simp [lastOf]
                · simp
                  omega
              clear hr4 hk4 hel HQ3 HK3
              go_wp2_with fail
              go_meet
              case rel => exact ⟨rfl, HST2.out⟩
          · as_aux_lemma =>
              have HST2 : Hid (St w wr q x (k + 1)) := ⟨_, _, _, _, _, _, HST.out.more⟩
              have m1 : (kd == 1) = false := by simp [n1]
              have m2 : (kd == 2) = false := by simp [n2]
              have m3 : (kd == 3) = false := by simp [n3]
              have m4 : (kd == 4) = false := by simp [n4]
              clear n1 n2 n3 n4 c1 c2 c3
              go_wp2_with fail
              go_meet
              case rel => exact ⟨rfl, HST2.out⟩
        case rest =>
          obtain ⟨rfl, hSt3⟩ := hcut
          have HST2 := hid hSt3
          clear hSt3 c0 c1 c2 c3
          obtain ⟨G2, H2, bs2, es2, g2, t2, hSt2⟩ := HST2.out
          have HST3 := hid hSt2
          obtain ⟨s1, s2, s3, s4, s5, s6, s7, s8, s9, s10, s11, s12⟩ := hSt2
          have hb2 : bs2.length ≤ 1099511627776 := by omega
          have he2 : es2.length ≤ 1099511627776 := by omega
          obtain ⟨XA, xc, cx, -⟩ := rlen x H2 bs2 es2 g2 t2 _ s2
          have HQL := hid (fun W hW => qlen_any q G2 bs2 (pcs g2 t2 (es2.drop t2)) es2.length W (s1.keeps (K := []) (w' := W) hW (by simp)))
          have hlft := fun W hW => left_any q G2 bs2 (pcs g2 t2 (es2.drop t2)) es2.length W (s1.keeps (K := []) (w' := W) hW (by simp)) (by rw [pcs_length, List.length_drop]; omega)
          rw [left_same] at hlft
          have HLF := hid hlft
          have HRL := hid (fun W hW => rleft_any x H2 bs2 es2 g2 t2 W (s2.keeps (K := []) (w' := W) hW (by simp)) s5 he2)
          clear s1 s2 s3 s4 s5 s6 s7 s8 s9 s10 s11 s12 hlft
          go_wp2_with fail
          go_region_held3 (fun w' => w'.cell? ⟨x, 0, none⟩ = some (.slice XA bs2.length xc)) (first | trivial | assumption)
            (first
              | (go_at_call 13; refine (HQL.out _ (by repeat (first | assumption | exact Keeps.refl _ _ | apply Keeps.drewN | apply Keeps.drew))).mono ?_; rintro e yn ⟨rfl, rfl⟩)
              | (go_at_call 14; refine (HLF.out _ (by repeat (first | assumption | exact Keeps.refl _ _ | apply Keeps.drewN | apply Keeps.drew))).mono ?_; rintro e yl ⟨⟨v4, rfl, hv4, -⟩, hk4a⟩; have hk4 : Keeps [] wc yl := (by first | exact hk4a.pre | exact hk4a.pre1 | exact hk4a); obtain ⟨A4, c4, rfl, -⟩ := hv4.form; have cx4 := cell_keep hk4 (by simp) cx; have HV4 := hid hv4.ints2; clear hv4 hk4a)
              | (go_at_call 26; refine (HRL.out _ (by repeat (first | assumption | exact Keeps.refl _ _ | apply Keeps.drewN | apply Keeps.drew))).mono ?_; rintro e yr ⟨⟨v5, rfl, hv5, -⟩, hk5a⟩; have hk5 : Keeps [] yl yr := (by first | exact hk5a.pre | exact hk5a.pre1 | exact hk5a); obtain ⟨A5, c5, rfl, -⟩ := hv5.form; have cx5 := cell_keep hk5 (by simp) cx4; have HV5 := hid hv5.ints2; have HV45 := hid (HV4.out.keeps hk5 (by simp)); have hk45 := hk4.trans hk5 (by simp); clear hv5 hk5a hk5)
              | (go_at_call 16; refine (ints_any _ _ (toldV t2 (es2.length - t2)) (toldV t2 (es2.length - t2)) _ (by exact HV45.out) (by exact HV5.out)).mono ?_; rintro e yi ⟨rfl, hk6a⟩; rw [sameB_self]; have hk6 : Keeps [] yr yi := (by first | exact hk6a.pre | exact hk6a.pre1 | exact hk6a); have cx6 := cell_keep hk6 (by simp) cx5; have hk46 := hk45.trans hk6 (by simp); clear hk6 hk6a))
          all_goals
            go_wp2_with fail
            go_roundw
            case rel => exact ⟨k + 1, by omega, by omega, by go_num, G2, H2, bs2, es2, g2, t2, HST3.out.keeps (hk46.drewN 0)⟩
            case measure => simp [intOf] <;> omega
      · have hSt := HST.out
        obtain ⟨s1, s2, s3, s4, s5, s6, s7, s8, s9, s10, s11, s12⟩ := hSt
        have hb : bs.length ≤ 1099511627776 := by omega
        obtain ⟨XA, xc, cx, hxc⟩ := rlen x H bs es g t wr s2
        have hcap : bs.length ≤ 1099511627776 := hb
        have HXC := hid hxc
        have S12 := hid s12
        have hn := fun W hW => next_any q G bs (pcs g t (es.drop t)) es.length bs.length W (s1.keeps (w' := W) (K := []) hW (by simp)) hb
        rw [clip_self, List.take_length] at hn
        have HN := hid hn
        clear s2 s3 s4 s5 s6 s7 s8 s9 s10 s11 hxc hn s12 HST
        rcases (by omega : ¬ k < l.length ∨ (k < l.length ∧ ¬ k < 150)) with h | ⟨h0, h⟩
        all_goals
          go_wp2_with fail
          go_region_held3 (fun w' => w'.cell? ⟨x, 0, none⟩ = some (.slice XA bs.length xc)) (first | trivial | assumption)
            (first
              | (go_at_call 10; refine (HN.out _ (by repeat (first | exact Keeps.refl _ _ | apply Keeps.drewN | apply Keeps.drew))).mono ?_; rintro e w3 ⟨v3, rfl, hv3, -, hk3a⟩; have hk3 : Keeps [] wr w3 := (by first | exact hk3a.pre | exact hk3a.pre1 | exact hk3a); have cx3 := cell_keep hk3 (by simp) cx; have HV3 := hid (hv3.cellsIn (F := []) (by simp)); have HK3 := hid (S12.out.trans hk3 (by simp)); have HX3 := hid (HXC.out.keeps hk3 (by simp)); clear hv3 hk3 hk3a)
              | (go_at_call 11; refine (same_any _ _ bs bs _ (by exact HV3.out) (by exact HX3.out)).mono ?_; rintro e w6 ⟨rfl, hk6a⟩; rw [sameB_self]; have hk6 : Keeps [] w3 w6 := (by first | exact hk6a.pre | exact hk6a.pre1 | exact hk6a); have cx6 := cell_keep hk6 (by simp) cx3; have HK6 := hid (HK3.out.trans hk6 (by simp)); clear hk6 hk6a)
              | (go_at_call 15; refine (known_any _).mono ?_; rintro e w9 ⟨rfl, hk9a⟩; have hk9 : Keeps [] w6 w9 := (by first | exact hk9a.pre | exact hk9a.pre1 | exact hk9a); have cx9 := cell_keep hk9 (by simp) cx6))
          all_goals
            go_wp2
            go_ret
            exact ⟨rfl, (HK6.out.trans hk9 (by simp)).below (Nat.le_refl _) (by simp)⟩
end Go.Proofs.Ytnijemjfbghhmaa
