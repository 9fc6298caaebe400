/- The slab: Put whole; Take by contract. -/
import Derived.Test.YtkeffebcmajhmaaSlab5
namespace Go.Proofs.Ytkeffebcmajhmaa
open Go.RowKit
set_option linter.unusedVariables false
theorem sput_any (s : Nat) (F : List Nat) (lim n : Int) (L : List Slot) (v : Int) (w : World) (h : SRep w s F lim L n) (hn : (n == lim) = false) (hg : ∀ d ∈ L, 0 ≤ d.1 ∧ d.1 ≤ 1099511627776) (hL : L.length ≤ 1099511627776) (hn0 : -1099511627776 ≤ n) (hn1 : n ≤ 1099511627776) :
    Calls Try.prog 20 #[.pointer (some ⟨s, 0, none⟩), .int .i64 v] w (Put w s F lim n v L) := by
  by_cases hk : freeAt L < L.length
  · have hd := List.getElem?_eq_getElem hk
    have hb := hg _ (List.mem_of_getElem? hd)
    exact sput_old s F lim n L _ v w h hn hd hb.1 hb.2 hn0 hn1
  · exact sput_new s F lim n L v w h hn (by have := freeAt_le L; omega) hL hn0 hn1
/-- v is a slice of Handles. -/
def HsIn (w : World) (F : List Nat) (v : Value) (hs : List (Int × Int)) : Prop :=
  ∃ A c, v = .slice A hs.length c ∧ hs.length ≤ c ∧ c ≤ maxLen ∧ (0 < hs.length → ∃ b o, A = some ⟨b, o, none⟩ ∧ b ∉ F ∧ ∀ j h, hs[j]? = some h → w.cell? ⟨b, o + j * 2, none⟩ = some (.int .i64 h.1) ∧ w.cell? ⟨b, o + j * 2 + 1, none⟩ = some (.int .i64 h.2))
theorem HsIn.keeps {w w' : World} {F G : List Nat} {v : Value} {hs : List (Int × Int)} (h : HsIn w F v hs) (hk : Keeps G w w') (hG : ∀ x ∈ G, x ∈ F ∨ w.heap.size ≤ x) : HsIn w' F v hs := by
  obtain ⟨A, c, hv, h1, h2, h3⟩ := h
  refine ⟨A, c, hv, h1, h2, fun hp => ?_⟩
  obtain ⟨b, o, hA, hb, hc⟩ := h3 hp
  refine ⟨b, o, hA, hb, fun j u hu => ?_⟩
  obtain ⟨c1, c2⟩ := hc j u hu
  have hlt := World.block_lt_of_cell? w _ c1
  have hbG : b ∉ G := fun hx => (hG _ hx).elim hb (fun h5 => absurd hlt (Nat.not_lt.2 h5))
  exact ⟨cell_keep hk hbG c1, cell_keep hk hbG c2⟩
theorem HsIn.shape {w : World} {F : List Nat} {v : Value} {hs : List (Int × Int)} (h : HsIn w F v hs) : ∃ A c, v = .slice A hs.length c ∧ hs.length ≤ c ∧ c ≤ 9223372036854775807 := by
  obtain ⟨A, c, hv, h1, h2, h3⟩ := h
  exact ⟨A, c, hv, h1, by unfold maxLen at h2; omega⟩
theorem HsIn.at_ {w : World} {F : List Nat} {A : Option Addr} {n c : Nat} {hs : List (Int × Int)} (h : HsIn w F (.slice A n c) hs) (hn : 0 < hs.length) :
    ∃ b o, A = some ⟨b, o, none⟩ ∧ b ∉ F ∧ ∀ j h, hs[j]? = some h → w.cell? ⟨b, o + j * 2, none⟩ = some (.int .i64 h.1) ∧ w.cell? ⟨b, o + j * 2 + 1, none⟩ = some (.int .i64 h.2) := by
  obtain ⟨A', c', hv, h1, h2, h3⟩ := h
  injection hv with hA
  subst hA
  exact h3 hn
/-- one Handle taken. -/
def take1 (st : List Slot × Nat) (h : Int × Int) : List Slot × Nat := match live st.1 h.1 h.2 with
  | some (k, v) => (st.1.set k (h.2, false, v), st.2 + 1)
  | none => st
def takeAll (L : List Slot) (hs : List (Int × Int)) : List Slot × Nat := hs.foldl take1 (L, 0)
theorem takeAll_snoc (L : List Slot) (hs : List (Int × Int)) (h : Int × Int) : takeAll L (hs ++ [h]) = take1 (takeAll L hs) h := by simp [takeAll]
theorem takeAll_le (L : List Slot) (hs : List (Int × Int)) : (takeAll L hs).2 ≤ hs.length := by
  suffices h : ∀ st : List Slot × Nat, (hs.foldl take1 st).2 ≤ st.2 + hs.length by
    have h1 := h (L, 0)
    simp only [Nat.zero_add] at h1
    exact h1
  induction hs with
  | nil => intro st; simp
  | cons h hs ih =>
    intro st
    rw [List.foldl_cons]
    have h1 := ih (take1 st h)
    have h2 : (take1 st h).2 ≤ st.2 + 1 := by
      unfold take1
      split
      · exact Nat.le_refl _
      · omega
    simp only [List.length_cons]
    omega
set_option maxRecDepth 100000 in
set_option maxHeartbeats 1000000 in
theorem stake_any (s : Nat) (F : List Nat) (lim n : Int) (L : List Slot) (pv : Value) (hs : List (Int × Int)) (w : World) (h : SRep w s F lim L n) (hp : HsIn w F pv hs) (hhs : hs.length ≤ 1099511627776) (hn0 : -1099511627776 ≤ n) (hn1 : n ≤ 1099511627776) :
    Calls Try.prog 21 #[.pointer (some ⟨s, 0, none⟩), pv] w fun e w' => e = .returned (.int .i64 (takeAll L hs).2) ∧ SRep w' s F lim (takeAll L hs).1 (n - (takeAll L hs).2) ∧ Keeps F w w' := by
  have HP := hid hp
  obtain ⟨A, c, rfl, hp1, hp2⟩ := hp.shape
  have H := hid h
  clear hp h
  go_enter Try.func21, Try.ntmps21
  go_wp2_with fail
  go_loopw [5, 7, 8, 11] (fun m _ _ i wr => ∃ (k M : Nat) (L' : List Slot), k ≤ hs.length ∧ i = .int .i64 k ∧ takeAll L (hs.take k) = (L', M) ∧ M ≤ k ∧ m = .int .i64 M ∧ SRep wr s F lim L' (n - M) ∧ Keeps F w wr) (fun _ _ _ i _ => hs.length - (intOf i).toNat)
  case atStart => exact ⟨0, 0, L, Nat.zero_le _, rfl, by simp [takeAll], Nat.le_refl _, rfl, by simpa using H.out, Keeps.refl _ _⟩
  case round =>
    obtain ⟨k, M, L', hk, rfl, hM, hMk, rfl, hr, hkp⟩ := hrel
    by_cases hlt : k < hs.length
    · obtain ⟨hh, hhk⟩ : ∃ hh, hs[k]? = some hh := ⟨hs[k], by simp [hlt]⟩
      obtain ⟨pb, po, rfl, hpb, hpc⟩ := (HP.out.keeps hkp (fun j hj => .inl hj)).at_ (by omega)
      obtain ⟨d0, d1⟩ := hpc k hh hhk
      obtain ⟨hi, hg⟩ := hh
      simp only at d0 d1
      have hstep : takeAll L (hs.take (k + 1)) = take1 (L', M) (hi, hg) := by
        rw [List.take_add_one, hhk, Option.toList, takeAll_snoc, hM]
      have HM := hid hM
      have HS := hid hstep
      have hki : (k : Int) < hs.length := by omega
      have HR := hid hr
      clear hM hstep hpc hhk
      obtain ⟨x, hx⟩ : ∃ x, live L' hi hg = x := ⟨_, rfl⟩
      cases x with
      | none =>
        have HT : Hid (take1 (L', M) (hi, hg) = (L', M)) := hid (by unfold take1; simp only; rw [hx])
        have HX := hid hx
        clear hx hr
        go_wp2_with fail
        refine (at_dead s F lim (n - M) L' hi hg _ (HR.out.keeps ((Keeps.refl [] wr).alloc _) (by simp)) HX.out).mono ?_
        rintro e w1 ⟨rfl, hk1⟩
        have hk2 := ((Keeps.refl [] wr).alloc _).trans hk1 (by simp)
        go_wp2_with fail
        go_roundw
        case rel => exact ⟨k + 1, M, L', by omega, by go_num, by rw [HS.out, HT.out], by omega, rfl, HR.out.keeps hk2 (by simp), hkp.trans hk2 (by simp)⟩
        case measure => simp [intOf] <;> omega
      | some x =>
        obtain ⟨j, v⟩ := x
        obtain ⟨rfl, hd⟩ := live_some hx
        have HT : Hid (take1 (L', M) ((j : Int), hg) = (L'.set j (hg, false, v), M + 1)) := hid (by unfold take1; simp only; rw [hx])
        obtain ⟨A, cap, hv, -, -, hc⟩ := hr.opened
        have hjl : j < L'.length := (List.getElem?_eq_some_iff.1 hd).1
        obtain ⟨b, off, rfl, hcc⟩ := hc (by omega)
        obtain ⟨-, g1, -⟩ := hcc j _ hd
        have HD := hid hd
        have n1 := fun o => alloc_cell hv o
        have n2 := fun o => alloc_cell g1 o
        clear hx hr hcc hd hv g1 hc
        simp only at n2
        go_wp2_with fail
        refine (at_live s F lim (n - M) L' j hg v _ (HR.out.keeps ((Keeps.refl [] wr).alloc _) (by simp)) HD.out b off cap (n1 _)).mono ?_
        rintro e w1 ⟨rfl, hk1⟩
        have n3 := cell_keep hk1 (by simp) (n2 _)
        have n4 := cell_keep hk1 (by simp) (n1 _)
        have hk2 := ((Keeps.refl [] wr).alloc _).trans hk1 (by simp)
        have hr1 := HR.out.keeps hk2 (by simp)
        obtain ⟨hb, hbs, hfz, hst, -, -⟩ := hr1.stores n4 HD.out
        obtain ⟨m2, -, mf, hsF, -⟩ := hr1.cN
        have f1 := hfz (off + j * 3 + 1)
        have f2 := mf 2
        have HST := hid (hst false)
        have HK := hid hk2
        clear n1 n2 n4 hst hfz hk1 hk2 mf hr1
        go_wp2_with fail
        go_roundw
        case rel =>
          refine ⟨k + 1, M + 1, L'.set j (hg, false, v), by omega, by go_num, by rw [HS.out, HT.out], by omega, by go_num, ?_, (hkp.trans (HK.out.mono (G := F) (by simp)) (fun j hj => .inl hj)).setCell (p := ⟨b, off + j * 3 + 1, none⟩) (.inl hb) _ |>.setCell (p := ⟨s, 2, none⟩) (.inl hsF) _⟩
          have h5 := HST.out.setN (n - ((M + 1 : Nat) : Int))
          have e : n - (M : Int) - 1 = n - ((M + 1 : Nat) : Int) := by omega
          rw [e]
          exact h5
        case measure => simp [intOf] <;> omega
    · have hkl : k = hs.length := by omega
      subst hkl
      rw [List.take_length] at hM
      have HM := hid hM
      clear hM
      go_wp2
      go_ret
      rw [HM.out]
      exact ⟨rfl, hr, hkp⟩
end Go.Proofs.Ytkeffebcmajhmaa
