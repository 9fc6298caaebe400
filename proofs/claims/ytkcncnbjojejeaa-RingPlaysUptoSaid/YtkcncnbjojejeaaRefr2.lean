/- The reference's ring: Write by contract. -/
import Derived.Test.YtkcncnbjojejeaaRefr1
namespace Go.Proofs.Ytkcncnbjojejeaa
open Go.RowKit
set_option linter.unusedVariables false
def flat (rows : List (Value × List Int)) : List Int := (rows.map (·.2)).flatten
theorem poured_take (S : Nat) (bs : List Int) (rows : List (Value × List Int)) (k : Nat) (v : Value) (zs : List Int) (h : rows[k]? = some (v, zs)) :
    poured S bs (rows.take (k + 1)) = poured S bs (rows.take k) ++ zs.take (S - (poured S bs (rows.take k)).length) := by
  rw [List.take_add_one, h, Option.toList]
  exact poured_snoc _ (v, zs)
theorem poured_le (S : Nat) (bs : List Int) (rows : List (Value × List Int)) : (poured S bs rows).length ≤ S := by
  unfold poured
  rw [List.length_take]
  omega
theorem poured_ge (S : Nat) (bs : List Int) (rows : List (Value × List Int)) (h : bs.length ≤ S) : bs.length ≤ (poured S bs rows).length := by
  unfold poured
  rw [List.length_take, List.length_append]
  omega
set_option maxRecDepth 100000 in
set_option maxHeartbeats 2000000 in
theorem rwrite_any (x S : Nat) (F : List Nat) (bs : List Int) (pv : Value) (rows : List (Value × List Int)) (w : World) (h : RR w x F S bs) (hS : S ≤ 65536) (hb : bs.length ≤ S)
    (hp : CellsIn w F pv (rows.map (·.1))) (hrs : ∀ r ∈ rows, CellsIn w F r.1 (bytesV r.2)) :
    Calls Try.prog 18 #[.pointer (some ⟨x, 0, none⟩), pv] w fun e w' => e = .returned (.int .i64 (((poured S bs rows).length : Int) - bs.length)) ∧
      (∃ F', RR w' x F' S (poured S bs rows) ∧ Later F w F') ∧ Keeps F w w' := by
  obtain ⟨i0, hi0, hz0, hz1, hz2⟩ := info_parts byte_info
  have HP := hid hp
  have HR := hid hrs
  obtain ⟨A, c, rfl, hp1, hp2⟩ := hp.shape
  simp only [List.length_map] at HP hp1 ⊢
  have hrl : rows.length ≤ 9223372036854775807 := by omega
  clear hp hrs
  have HQ := hid h
  clear h
  go_enter Try.func18, Try.ntmps18
  go_wp2_with fail
  go_loopw [5, 6, 7] (fun n i _ wr => ∃ (k : Nat) (G : List Nat) (cur : List Int), k ≤ rows.length ∧ i = .int .i64 k ∧ poured S bs (rows.take k) = cur ∧ cur.length ≤ S ∧ bs.length ≤ cur.length ∧ n = .int .i64 ((cur.length : Int) - bs.length) ∧ RR wr x G S cur ∧ Later F w G ∧ Keeps F w wr) (fun _ i _ _ => rows.length - (intOf i).toNat)
  case atStart =>
    refine ⟨0, F, bs, Nat.zero_le _, rfl, ?_, hb, Nat.le_refl _, by simp, HQ.out, Later.refl _ _, Keeps.refl _ _⟩
    exact poured_nil hb
  case round =>
    obtain ⟨k, G, cur, hk, rfl, hcur, hcS, hbc, rfl, hq, hlat, hkp⟩ := hrel
    have HCUR := hid hcur
    clear hcur
    by_cases hlt : k < rows.length
    · obtain ⟨pb, po, rfl, -, hpc⟩ := (HP.out.keeps hkp (by intro x hx; exact .inl hx)).at_ (by simpa using (by omega : 0 < rows.length))
      obtain ⟨v, zs, hr0⟩ : ∃ v zs, rows[k]? = some (v, zs) := ⟨rows[k].1, rows[k].2, by simp [hlt]⟩
      have hcell := hpc k v (by simp [hr0])
      have hbz : CellsIn wr F v (bytesV zs) := (HR.out (v, zs) (List.mem_of_getElem? hr0)).keeps hkp (by intro x hx; exact .inl hx)
      obtain ⟨m, hm⟩ : ∃ m, min zs.length (S - cur.length) = m := ⟨_, rfl⟩
      have hmz : m ≤ zs.length := by omega
      have hmS : cur.length + m ≤ S := by omega
      have HN : Hid (poured S bs (rows.take (k + 1)) = cur ++ zs.take m) := by
        refine hid ?_
        rw [poured_take S bs rows k v zs hr0, HCUR.out]
        congr 1
        rw [List.take_eq_take_iff]
        omega
      obtain ⟨vb, b1, b2, b4, b5, b6⟩ := hq
      obtain ⟨ZA, zc, rfl, hz1', hz2'⟩ := hbz.shape
      have hzl : (bytesV zs).length = zs.length := by simp [bytesV]
      rw [hzl] at hcell hbz hz1'
      have HRD : Hid (Reads wr 1 ZA m (bytesV (zs.take m))) := by
        have h := (hbz.take (k := m) hmz).reads.2
        have e : (bytesV zs).take m = bytesV (zs.take m) := by simp [bytesV]
        rw [e] at h
        exact hid h
      obtain ⟨VA, vc, hve, -⟩ := b2.form
      have c0 := b1.cell 0
      have c1 := b1.cell 1
      simp at c0 c1
      have f1 := b1.frozen 1
      have B1 := hid b1
      have B2 := hid b2
      have B4 := hid b4
      have B6 := hid b6
      have ha : x ∉ vb.ownBlock.toList := fun hx => b2.blk_ne b1 (by decide) x (by simpa using hx) rfl
      have HA := hid ha
      have hke : (k : Int) < rows.length := by omega
      have hmc : (m : Int) ≤ zc := by omega
      have HM := hid hm
      subst hve
      clear ha hpc hr0 hbz b1 b2 b4 b6 hzl hm
      have h3 : (zs.length : Int) = m ∧ (m : Int) ≤ (S : Int) - cur.length ∨ (S : Int) - cur.length = m ∧ (m : Int) < zs.length := by have := HM.out; omega
      rcases h3 with ⟨hzm, hz2⟩ | ⟨hzm, hz2⟩
      all_goals
        go_wp2_with fail
        go_quiet (fail)
        go_wp2_with fail
        clear hzm hz2
        go_region_law (first
          | (refine step_append_row _ (by rfl) _ _ _ (by rfl) 5 i0 _ 1 1 Try.underlying32 hi0 hz0 hz1 hz2 rfl (by omega) (.slice VA cur.length vc) cur.length _ (by rfl) (by exact B2.out) ZA m zc _ (by rfl) (by exact HRD.out) (bytesV_one _) (by simp only [maxLen]; omega) (by omega) ?_; intro v1 w1 hv1 hk1a ho1a; have hk1 : Keeps (Value.slice VA cur.length vc).ownBlock.toList wr w1 := (by first | exact hk1a.pre | exact hk1a.pre1 | exact hk1a); have ho1 : ∀ j, v1.ownBlock = some j → (Value.slice VA cur.length vc).ownBlock = some j ∨ wr.heap.size ≤ j := (by exact ho1a); obtain ⟨A1, q1, rfl, -⟩ := hv1.form; have c1' := cell_keep hk1 HA.out c1; have f1' := (B1.out.keeps hk1 HA.out).frozen 1; have HV1 := hid hv1; have HK1 := hid hk1; have HO1 := hid ho1; clear hv1 hk1 ho1 hk1a ho1a))
        all_goals
          go_wp2_with fail
          go_roundw
          case rel =>
            have hv := HV1.out
            have hml : (zs.take m).length = m := by rw [List.length_take]; omega
            rw [show bytesV cur ++ bytesV (zs.take m) = bytesV (cur ++ zs.take m) by simp [bytesV], show cur.length + m = (cur ++ zs.take m).length by rw [List.length_append, hml]] at hv
            have hs := RR.setB B1.out B2.out B4.out b5 B6.out (vb' := .slice A1 (cur ++ zs.take m).length q1) hv HK1.out (by rw [List.length_append, hml]; exact HO1.out)
            rw [List.length_append, hml] at hs
            refine ⟨k + 1, _, cur ++ zs.take m, by omega, by go_num, HN.out, by rw [List.length_append, hml]; omega, by rw [List.length_append, hml]; omega, ?_, hs.1, hlat.trans hs.2.2 hkp.size, hkp.trans hs.2.1 hlat⟩
            rw [List.length_append, hml]
            first | rfl | (congr 1; omega)
          case measure => simp [intOf] <;> omega
    · have hkl : k = rows.length := by omega
      subst hkl
      have hc := HCUR.out
      rw [List.take_length] at hc
      subst hc
      go_wp2
      go_ret
      exact ⟨rfl, ⟨G, hq, hlat⟩, hkp⟩
end Go.Proofs.Ytkcncnbjojejeaa
