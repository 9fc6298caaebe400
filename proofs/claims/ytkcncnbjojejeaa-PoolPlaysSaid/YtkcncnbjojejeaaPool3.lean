/- The pool: Put by contract. -/
import Derived.Test.YtkcncnbjojejeaaPool2
namespace Go.Proofs.Ytkcncnbjojejeaa
open Go.RowKit
/-- One number put back. -/
def putStep (L : List Bool) (i : Int) : List Bool := if 0 ≤ i ∧ i.toNat < L.length ∧ L.getD i.toNat false = true then L.set i.toNat false else L
theorem putStep_length (L : List Bool) (i : Int) : (putStep L i).length = L.length := by unfold putStep; split <;> simp
theorem putStep_count (L : List Bool) (i : Int) : (putStep L i).count true ≤ L.count true := by
  unfold putStep
  split
  · rename_i h
    have := count_set_false L i.toNat h.2.1 h.2.2
    omega
  · omega
theorem foldl_length (ns : List Int) : ∀ L : List Bool, (ns.foldl putStep L).length = L.length := by
  induction ns with
  | nil => intro L; rfl
  | cons n ns ih => intro L; rw [List.foldl_cons, ih, putStep_length]
theorem foldl_count (ns : List Int) : ∀ L : List Bool, (ns.foldl putStep L).count true ≤ L.count true := by
  induction ns with
  | nil => intro L; exact Nat.le_refl _
  | cons n ns ih => intro L; rw [List.foldl_cons]; exact Nat.le_trans (ih _) (putStep_count L n)
/-- What the two stores of Put leave. -/
theorem pool_back {w1 : World} {p g size most k : Nat} {L : List Bool} {c : Int} (h : PoolRep w1 p g L size most) (hk : k < L.length) (hc : c = (L.set k false).count true) :
    PoolRep ((w1.setCell ⟨g, k, none⟩ (.bool false)).setCell ⟨p, 2, none⟩ (.int .i64 c)) p g (L.set k false) size most := by
  have hne := h.ne
  obtain ⟨q1, q2, h3, h4, h5, h6⟩ := h
  subst hc
  refine ⟨?_, ?_, by simpa using h3, h4, h5, h6⟩
  · rw [List.length_set]
    exact (q1.far (p := ⟨g, k, none⟩) hne _).set_ 2 _
  · rw [List.length_set]
    exact ((q2.set k (.bool false)).setOther (a := ⟨p, 2, none⟩) (Ne.symm hne) _).congr (fun i hi => by
      rw [getD_set L k i false hk]
      split <;> rfl)
set_option maxRecDepth 100000 in
set_option maxHeartbeats 1000000 in
theorem put_any (p g size most : Nat) (L : List Bool) (pv : Value) (ns : List Int) (w : World) (h : PoolRep w p g L size most) (hp : CellsIn w [p, g] pv (ns.map (.int .i64))) :
    Calls Try.prog 33 #[.pointer (some ⟨p, 0, none⟩), pv] w fun e w' => e = .returned (.int .i64 ((L.count true : Int) - (ns.foldl putStep L).count true)) ∧
      PoolRep w' p g (ns.foldl putStep L) size most ∧ Keeps [p, g] w w' := by
  have HP := hid hp
  obtain ⟨A, c, rfl, hp1, hp2⟩ := hp.shape
  simp only [List.length_map] at HP hp1 ⊢
  have hrl : ns.length ≤ 9223372036854775807 := by omega
  have hLl := h.2.2.1
  have hLc : L.count true ≤ L.length := List.count_le_length
  have H := hid h
  clear hp h
  go_enter Try.func33, Try.ntmps33
  go_wp2_with fail
  go_loopw [5, 7, 12] (fun m _ i wr => ∃ (k : Nat) (M : List Bool), k ≤ ns.length ∧ i = .int .i64 k ∧ (ns.take k).foldl putStep L = M ∧ m = .int .i64 ((L.count true : Int) - M.count true) ∧ PoolRep wr p g M size most ∧ Keeps [p, g] w wr) (fun _ _ i _ => ns.length - (intOf i).toNat)
  case atStart => exact ⟨0, L, Nat.zero_le _, rfl, rfl, by simp, H.out, Keeps.refl _ _⟩
  case round =>
    obtain ⟨k, M, hk, rfl, hM, rfl, hr, hkp⟩ := hrel
    by_cases hlt : k < ns.length
    · obtain ⟨n, hn⟩ : ∃ n, ns[k]? = some n := ⟨ns[k], by simp [hlt]⟩
      obtain ⟨pb, po, rfl, hpb, hpc⟩ := (HP.out.keeps hkp (by simp)).at_ (by simp; omega)
      have hcell := hpc k (.int .i64 n) (by simp [hn])
      have hstep : (ns.take (k + 1)).foldl putStep L = putStep M n := by
        rw [List.take_add_one, hn, List.foldl_append, hM]
        rfl
      have hMc : M.count true ≤ L.count true := by rw [← hM]; exact foldl_count _ _
      have hMl : M.length = L.length := by rw [← hM]; exact foldl_length _ _
      have HM := hid hM
      have HS := hid hstep
      have HML := hid hMl
      have hMl' : M.length ≤ 4096 := by omega
      have hMp := List.count_le_length (l := M) (a := true)
      clear hM hstep hMl hpc hn
      obtain ⟨q1, q2, -⟩ := id hr
      have c0 := q1.cell 0
      have c2 := q1.cell 2
      simp at c0 c2
      have f2 := q1.frozen 2
      by_cases hin : 0 ≤ n ∧ n < M.length
      · obtain ⟨hn0, hnM⟩ := hin
        obtain ⟨i, rfl⟩ := Int.eq_ofNat_of_zero_le hn0
        have hiM : i < M.length := by omega
        have gc := q2.cell hiM
        have gf := q2.frozen i
        obtain ⟨x, hx⟩ : ∃ x, M.getD i false = x := ⟨_, rfl⟩
        rw [hx] at gc
        have HX := hid hx
        have hne := hr.ne
        clear hx q1 q2
        cases x with
        | false =>
          have hps : putStep M i = M := by
            unfold putStep
            rw [if_neg]
            rintro ⟨-, -, h⟩
            simp only [Int.toNat_natCast] at h
            rw [HX.out] at h
            cases h
          have HPS := hid hps
          clear hps
          go_wp2
          go_roundw
          case rel => exact ⟨k + 1, M, by omega, by go_num, by rw [HS.out, HPS.out], rfl, hr, hkp⟩
          case measure => simp [intOf] <;> omega
        | true =>
          have hps : putStep M i = M.set i false := by
            unfold putStep
            rw [if_pos ⟨by omega, by simpa using hiM, by simpa using HX.out⟩]
            rfl
          have hcs := count_set_false M i hiM HX.out
          have HPS := hid hps
          clear hps
          go_wp2
          go_roundw
          case rel =>
            refine ⟨k + 1, M.set i false, by omega, by go_num, by rw [HS.out, HPS.out], ?_, pool_back hr hiM (by omega), (hkp.setCell (p := ⟨g, i, none⟩) (.inl (by simp)) _).setCell (p := ⟨p, 2, none⟩) (.inl (by simp)) _⟩
            congr 1
            omega
          case measure => simp [intOf] <;> omega
      · have hps : putStep M n = M := by
          unfold putStep
          rw [if_neg]
          rintro ⟨h1, h2, -⟩
          omega
        have HPS := hid hps
        clear hps q1 q2
        by_cases hn0 : 0 ≤ n
        · have hnM : ¬ n < M.length := by omega
          clear hin
          go_wp2
          go_roundw
          case rel => exact ⟨k + 1, M, by omega, by go_num, by rw [HS.out, HPS.out], rfl, hr, hkp⟩
          case measure => simp [intOf] <;> omega
        · clear hin
          go_wp2
          go_roundw
          case rel => exact ⟨k + 1, M, by omega, by go_num, by rw [HS.out, HPS.out], rfl, hr, hkp⟩
          case measure => simp [intOf] <;> omega
    · have hkl : k = ns.length := by omega
      subst hkl
      rw [List.take_length] at hM
      have HM := hid hM
      clear hM
      go_wp2
      go_ret
      rw [HM.out]
      exact ⟨rfl, hr, hkp⟩
end Go.Proofs.Ytkcncnbjojejeaa
