/- The net's law: heavy, roomy, stands, spoil by contract. -/
import Derived.Test.YtkeffebcmajhmaaNActs
namespace Go.Proofs.Ytkeffebcmajhmaa
open Go.RowKit
theorem Row.uptoN {w : World} {e : TypeId} {size : Nat} {xs : List Value} {A : Option Addr} {n c k : Nat} (h : Row w e size (.slice A n c) n xs) (hk : k ≤ n) : Row w e size (.slice A k c) k (xs.take (k * size)) := by
  obtain ⟨hl, h⟩ := h
  have hm : k * size ≤ n * size := Nat.mul_le_mul_right _ hk
  refine ⟨by rw [List.length_take, hl]; omega, ?_⟩
  rcases h with ⟨hv, hn⟩ | ⟨g, off, cap, cur, hv, hg, h2, h3, h4, h5⟩
  · injection hv with hA hn' hc
    subst hA hc
    left
    have hk0 : k = 0 := by omega
    subst hk0
    simp
  · injection hv with hA _ hc
    subst hA hc
    right
    refine ⟨g, off, c, cur, rfl, hg, by omega, h3, h4, ?_⟩
    rw [← h5, List.take_take, Nat.min_eq_left hm]
set_option maxRecDepth 100000 in
theorem nroomy_any (v : Value) (zs : List Int) (w : World) (hv : CellsIn w [] v (bytesV zs)) (hz : zs.length ≤ 1099511627776) :
    Calls Try.prog 80 #[v] w fun e w' => ∃ A c, e = .returned (.slice A (zs.length + 1) c) ∧ Row w' 5 1 (.slice A (zs.length + 1) c) (zs.length + 1) (bytesV (zs ++ [171])) ∧ (∀ k, (Value.slice A (zs.length + 1) c).ownBlock = some k → w.heap.size ≤ k) ∧ Keeps [] w w' := by
  obtain ⟨i0, hi0, hz0, hz1, hz2⟩ := info_parts u8_info
  have HV := hid hv
  obtain ⟨A, c, rfl, h1, h2⟩ := hv.shape
  have hxl : (bytesV zs).length = zs.length := by simp [bytesV]
  rw [hxl] at HV h1 ⊢
  have HR := hid (HV.out.alloc (.cells #[] 5)).reads.2
  clear hv hxl
  go_enter Try.func80, Try.ntmps80
  go_wp2_with (at_builtin; first
    | (refine wpList_append_row _ rfl (.tmp 3) (.tmp 4) _ rfl 5 i0 _ 1 1 Try.underlying66 hi0 hz0 hz1 hz2 rfl (by omega) (.slice (some ⟨w.heap.size, 0, none⟩) 0 0) 0 [] rfl (Row.empty w _) A zs.length c _ rfl HR.out (bytesV_one _) (by simp only [maxLen]; omega) (by omega) ?_; intro v3 w3 hv3 hk3 ho3; simp only [Nat.zero_add, List.nil_append] at hv3; have HV3 := hid hv3; have HK3 := hid hk3; have HO3 := hid ho3; clear hv3 hk3 ho3)
    | (refine wpList_append_row _ rfl (.tmp 5) (.tmp 6) _ rfl 5 i0 _ 1 1 Try.underlying66 hi0 hz0 hz1 hz2 rfl (by omega) v3 zs.length _ rfl (HV3.out.alloc _) (some ⟨w3.heap.size, 0, none⟩) 1 1 [.int .u8 171] rfl (reads_blk1 (Blk.new w3 _ _)) (by simp [Value.oneCell']) (by simp only [maxLen]; omega) (by omega) ?_; intro v4 w4 hv4 hk4 ho4; have HV4 := hid hv4; have HK4 := hid hk4; have HO4 := hid ho4; clear hv4 hk4 ho4)
    | (refine wpList_append_row _ rfl (.tmp 7) (.tmp 8) _ rfl 5 i0 _ 1 1 Try.underlying66 hi0 hz0 hz1 hz2 rfl (by omega) v4 (zs.length + 1) _ rfl (HV4.out.alloc _) (some ⟨w4.heap.size, 0, none⟩) 1 1 [.int .u8 171] rfl (reads_blk1 (Blk.new w4 _ _)) (by simp [Value.oneCell']) (by simp only [maxLen]; omega) (by omega) ?_; intro v5 w5 hv5 hk5 ho5; obtain ⟨A5, c5, rfl, hc5, hm5, -⟩ := hv5.form; have hm5' : c5 ≤ 9223372036854775807 := (by simpa [maxLen] using hm5); have HV5 := hid hv5; have HK5 := hid hk5; have HO5 := hid ho5; clear hv5 hk5 ho5 hm5))
  go_ret
  have ho3 : ∀ k, v3.ownBlock = some k → w.heap.size ≤ k := fun k hk => by
    rcases HO3.out k hk with h | h
    · simp [Value.ownBlock] at h
      omega
    · simp at h
      omega
  have k3 : Keeps [] w w3 := ((Keeps.refl [] w).alloc _).trans HK3.out (by simp [Value.ownBlock])
  have ho4 : ∀ k, v4.ownBlock = some k → w.heap.size ≤ k := fun k hk => by
    rcases HO4.out k hk with h | h
    · exact ho3 k h
    · have := k3.size
      simp at h
      omega
  have k4 : Keeps [] w w4 := (k3.alloc _).trans HK4.out (fun x hx => .inr (ho3 x (by simpa using hx)))
  have ho5 : ∀ k, (Value.slice A5 (zs.length + 1 + 1) c5).ownBlock = some k → w.heap.size ≤ k := fun k hk => by
    rcases HO5.out k hk with h | h
    · exact ho4 k h
    · have := k4.size
      simp at h
      omega
  have k5 : Keeps [] w w5 := (k4.alloc _).trans HK5.out (fun x hx => .inr (ho4 x (by simpa using hx)))
  refine ⟨A5, c5, rfl, ?_, fun k hk => ho5 k (by cases A5 with
    | none => cases hk
    | some a => exact hk), k5⟩
  have h := HV5.out.uptoN (k := zs.length + 1) (by omega)
  have e1 : (bytesV zs ++ [Value.int .u8 171] ++ [Value.int .u8 171]).take ((zs.length + 1) * 1) = bytesV (zs ++ [171]) := by
    rw [List.take_append_of_le_length (by simp [bytesV]), List.take_of_length_le (by simp [bytesV])]
    simp [bytesV]
  rw [e1] at h
  exact h
set_option maxRecDepth 100000 in
theorem nstands_any (a b : Value) (zs : List Int) (w : World) (ha : CellsIn w [] a (bytesV (zs ++ [171]))) (hb : CellsIn w [] b (bytesV zs)) :
    Calls Try.prog 82 #[a, b] w fun e w' => e = .returned (.bool true) ∧ Keeps [] w w' := by
  have HA := hid ha
  have HB := hid hb
  obtain ⟨A, ca, rfl, ha1, ha2⟩ := ha.shape
  obtain ⟨B, cb, rfl, hb1, hb2⟩ := hb.shape
  clear ha hb
  simp only [bytesV, List.length_map, List.length_append, List.length_singleton] at HA HB ha1 hb1 ⊢
  have hzl : zs.length + 1 ≤ 9223372036854775807 := by omega
  have HT : Hid (CellsIn w [] (.slice A zs.length ca) (bytesV zs)) := by
    have h := HA.out.take (k := zs.length) (by omega)
    refine hid ?_
    rw [List.map_append, List.take_append_of_le_length (by simp), List.take_of_length_le (by simp)] at h
    exact h
  obtain ⟨b1, o1, rfl, -, hc⟩ := HA.out.at_ (by simp)
  have h171 := hc zs.length (.int .u8 171) (by simp)
  have hlt : b1 < w.heap.size := World.block_lt_of_cell? w _ h171
  have hcc : zs.length ≤ ca := by omega
  clear hc
  go_enter Try.func82, Try.ntmps82
  go_wp2_with fail
  refine (nsame_any _ _ zs zs _ HT.out HB.out).mono ?_
  rintro e w1 ⟨rfl, hk⟩
  rw [sameB_self]
  have h171' := cell_keep hk (by simp) h171
  go_wp2
  go_ret
  exact ⟨rfl, hk⟩
set_option maxRecDepth 100000 in
theorem nspoil_any (v : Value) (n : Nat) (xs : List Value) (w : World) (h : Row w 5 1 v n xs) (hn : n ≤ 1099511627776) :
    Calls Try.prog 83 #[v] w fun e w' => (∃ r, e = .returned r) ∧ Keeps v.ownBlock.toList w w' := by
  obtain ⟨i0, hi0, hz0, hz1, hz2⟩ := info_parts u8_info
  have HV := hid h
  obtain ⟨A, c, rfl, -⟩ := h.form
  clear h
  obtain ⟨F, hF⟩ : ∃ F, (Value.slice A n c).ownBlock.toList = F := ⟨_, rfl⟩
  have HF := hid hF
  clear hF
  rw [HF.out]
  go_enter Try.func83, Try.ntmps83
  go_wp2_with (at_builtin; refine wpList_append_row _ rfl (.tmp 4) (.tmp 5) _ rfl 5 i0 _ 1 1 Try.underlying66 hi0 hz0 hz1 hz2 rfl (by omega) (.slice A n c) n _ rfl (HV.out.alloc _) (some ⟨w.heap.size, 0, none⟩) 1 1 [.int .u8 99] rfl (reads_blk1 (Blk.new w _ _)) (by simp [Value.oneCell']) (by simp only [maxLen]; omega) (by omega) ?_; intro v1 w1 hv1 hk1 ho1; obtain ⟨A1, c1, rfl, -⟩ := hv1.form; have HV1 := hid hv1; have HK1 := hid hk1; have HO1 := hid ho1; clear hv1 hk1 ho1)
  have HK : Hid (Keeps F w w1) := by
    refine hid (((Keeps.refl F w).alloc _).trans HK1.out (fun x hx => .inl ?_))
    rw [HF.out] at hx
    exact hx
  have HO : Hid (∀ k, (Value.slice A1 (n + 1) c1).ownBlock = some k → k ∈ F ∨ w.heap.size ≤ k) := by
    refine hid fun k hk => ?_
    rcases HO1.out k hk with h | h
    · left
      rw [← HF.out]
      simpa using h
    · simp at h
      omega
  go_loopw [3] (fun i wr => ∃ (k : Nat) (ys : List Value), k ≤ n + 1 ∧ i = .int .i64 k ∧ Row wr 5 1 (.slice A1 (n + 1) c1) (n + 1) ys ∧ Keeps F w wr) (fun i _ => n + 1 - (intOf i).toNat)
  case atStart => exact ⟨0, _, Nat.zero_le _, rfl, HV1.out, HK.out⟩
  case round =>
    obtain ⟨k, ys, hk, rfl, hrow, hkp⟩ := hrel
    by_cases hlt : k < n + 1
    · have hyl : ys.length = n + 1 := by have := hrow.1; omega
      obtain ⟨y, hy⟩ : ∃ y, ys[k]? = some y := ⟨ys[k], by simp [hyl, hlt]⟩
      obtain ⟨g, off, cap, hve, -, -, hcell, hfz, hset⟩ := hrow.open_ (by omega)
      injection hve with hve _ _
      subst hve
      have hc := hcell k y hy
      have hf := hfz (off + k)
      have hs := hset k (.int .u8 98) (by omega)
      have HS := hid hs
      have hg : g ∈ F ∨ w.heap.size ≤ g := HO.out g (by simp [Value.ownBlock])
      have HG := hid hg
      clear hcell hfz hset hs hy hyl hrow hg
      go_wp2
      go_roundw
      case rel => exact ⟨k + 1, _, by omega, by go_num, HS.out, hkp.setCell HG.out _⟩
      case measure => simp [intOf] <;> omega
    · have hkl : k = n + 1 := by omega
      subst hkl
      go_wp2
      go_end0
      exact ⟨⟨_, rfl⟩, hkp⟩
def IsBool (e : Ending) : Prop := ∃ r, e = .returned (.bool r)
set_option maxRecDepth 100000 in
theorem nheavy_any (v : Value) (l : List NAct) (w : World) (h : NActsIn w v l) (hs : ∀ a ∈ l, a.b.length ≤ 1048576 ∧ a.a.length ≤ 1048576) :
    Calls Try.prog 57 #[v] w fun e w' => IsBool e ∧ Keeps [] w w' := by
  have HV := hid h
  have HS := hid hs
  obtain ⟨A, c, rfl, h1, h2⟩ := h.shape
  clear h hs
  go_enter Try.func57, Try.ntmps57
  go_wp2_with fail
  go_loopw [3, 4] (fun n i wr => ∃ (k m : Nat), k ≤ l.length ∧ i = .int .i64 k ∧ n = .int .i64 m ∧ m ≤ 8000 ∧ wr = w) (fun _ i _ => l.length - (intOf i).toNat)
  case atStart => exact ⟨0, 0, Nat.zero_le _, rfl, rfl, by omega, rfl⟩
  case round =>
    obtain ⟨k, m, hk, rfl, rfl, hm, rfl⟩ := hrel
    by_cases hlt : k < l.length ∧ k < 150
    · obtain ⟨hl1, hl2⟩ := hlt
      obtain ⟨a, ha⟩ : ∃ a, l[k]? = some a := ⟨l[k], by simp [hl1]⟩
      obtain ⟨b, o, rfl, hc⟩ := HV.out.at_ (by omega)
      obtain ⟨-, -, -, c2, c3⟩ := hc k a ha
      have hr := HV.out.rows a (List.mem_of_getElem? ha)
      obtain ⟨BA, bc, hb1, -, -⟩ := hr.1.shape
      obtain ⟨CA, cc, hc1, -, -⟩ := hr.2.1.shape
      obtain ⟨s1, s2⟩ := HS.out a (List.mem_of_getElem? ha)
      rw [hb1] at c2
      rw [hc1] at c3
      simp only [List.length_map] at c2 c3
      clear hc hr ha hb1 hc1
      by_cases g1 : 8000 < m + 5 + a.b.length
      · go_wp2_with fail
        go_ret
        exact ⟨⟨_, rfl⟩, Keeps.refl _ _⟩
      by_cases g2 : 8000 < a.a.length
      · go_wp2_with fail
        go_ret
        exact ⟨⟨_, rfl⟩, Keeps.refl _ _⟩
      by_cases g3 : 8000 < m + 5 + a.b.length + a.a.length
      · go_wp2_with fail
        go_ret
        exact ⟨⟨_, rfl⟩, Keeps.refl _ _⟩
      go_wp2_with fail
      go_roundw
      case rel => exact ⟨k + 1, m + 5 + a.b.length + a.a.length, by omega, by go_num, by go_num, by omega, trivial⟩
      case measure => simp [intOf] <;> omega
    · rcases (by omega : ¬ k < l.length ∨ (k < l.length ∧ ¬ k < 150)) with h | ⟨h0, h⟩
      all_goals
        go_wp2_with fail
        go_ret
        exact ⟨⟨_, rfl⟩, Keeps.refl _ _⟩
end Go.Proofs.Ytkeffebcmajhmaa
