/- Bytes in both directions, in plain words. -/
import Derived.Test.YtkeffebcmajhmaaNet19
namespace Go.Proofs.Ytkeffebcmajhmaa
open Go.RowKit
set_option linter.unusedVariables false
def cF (I O : List Int) (a b t : Nat) (u r s : Int) : Cn := ⟨false, true, false, 0, false, false, true, (I.take a).drop t, u, r, s, O.take b, I.take t⟩
def nF (I O : List Int) (a b t : Nat) (u r s : Int) : NS := ⟨1, [cF I O a b t u r s], [], false, 0, 1, 1⟩
theorem nF_on {α : Type} (I O : List Int) (a b t : Nat) (u r s : Int) (f : Cn → Cn × α) (x : α) :
    onConn (nF I O a b t u r s) 0 f x = (⟨1, [(f (cF I O a b t u r s)).1], [], false, 0, 1, 1⟩, (f (cF I O a b t u r s)).2) := rfl
theorem nF_zero (I O : List Int) : acceptN ⟨1, [newCn 0], [0], false, 0, 1, 0⟩ = (nF I O 0 0 0 0 0 0, 0, 0, 0) := by
  simp [acceptN, nF, cF, newCn]
theorem cF_inn (I O : List Int) (a b t : Nat) (u r s : Int) (ha : a ≤ I.length) : (cF I O a b t u r s).inn.length = a - t := by
  simp [cF]; omega
theorem sendF (I O : List Int) (a b t K : Nat) (u r s : Int) (ht : t ≤ a) (ha : a + K ≤ I.length) (h1 : a - t ≤ 1024) :
    ∃ (m : Nat) (r' : Int), m ≤ K ∧ (a + m) - t ≤ 1024 ∧ sendN (nF I O a b t u r s) 0 [(I.drop a).take K] = (nF I O (a + m) b t u r' s, (m : Int), 0) := by
  unfold sendN
  rw [nF_on]
  have hil := cF_inn I O a b t u r s (by omega)
  obtain ⟨m, hm⟩ : ∃ m, min K (1024 - (a - t)) = m := ⟨_, rfl⟩
  have hrow : ((I.drop a).take K).length = K := by simp; omega
  have hx : ((cF I O a b t u r s).inn ++ [(I.drop a).take K].flatten).take 1024 = (I.take (a + m)).drop t := by
    have e0 : (cF I O a b t u r s).inn = (I.take a).drop t := rfl
    have e1 : (I.take a).drop t ++ (I.drop a).take K = (I.take (a + K)).drop t := by
      rw [List.take_add, List.drop_append_of_le_length (by simp; omega)]
    rw [e0]
    simp only [List.flatten_cons, List.flatten_nil, List.append_nil]
    rw [e1, List.take_drop, List.take_take, show min (t + 1024) (a + K) = a + m by omega]
  have hxl : ((I.take (a + m)).drop t).length = a + m - t := by simp; omega
  refine ⟨m, if 0 < (a + m - t) - (a - t) then r + 1 else r, by omega, by omega, ?_⟩
  unfold sendD
  rw [if_pos (by rfl), if_neg (by simp [cF]), hx, hxl, hil]
  simp only [Prod.mk.injEq, and_true]
  refine ⟨rfl, ?_⟩
  congr 1
  omega
theorem openF (I O : List Int) (a b t : Nat) (u r s x : Int) (hx : 0 ≤ x) : ∃ u' s', openN (nF I O a b t u r s) 0 x = (nF I O a b t u' r s', 0) := by
  unfold openN
  rw [if_neg (by omega), nF_on]
  unfold openD
  rw [if_pos (by rfl)]
  exact ⟨_, _, rfl⟩
theorem writeF (I O : List Int) (a b t : Nat) (u r s : Int) (hb : b ≤ O.length) : ∃ (m : Nat) (u' h : Int), b + m ≤ O.length ∧ (h = 0 ∨ h = 4) ∧ writeN (nF I O a b t u r s) 0 (O.drop b) = (nF I O a (b + m) t u' r s, (m : Int), h) := by
  unfold writeN
  rw [nF_on]
  unfold writeD
  rw [if_pos (by rfl), if_neg (by simp [cF])]
  by_cases h0 : O.drop b = []
  · rw [if_pos h0]
    exact ⟨0, u, 0, by omega, .inl rfl, rfl⟩
  · rw [if_neg h0]
    by_cases h1 : (cF I O a b t u r s).window = 0
    · rw [if_pos h1]
      exact ⟨0, u, 4, by omega, .inr rfl, rfl⟩
    · rw [if_neg h1]
      obtain ⟨m, hm⟩ : ∃ m, min (O.drop b).length (cF I O a b t u r s).window.toNat = m := ⟨_, rfl⟩
      rw [hm]
      have hml : m ≤ O.length - b := by rw [← hm]; simp; omega
      refine ⟨m, u - (m : Nat), 0, by omega, .inl rfl, ?_⟩
      have e : O.take b ++ (O.drop b).take m = O.take (b + m) := by rw [List.take_add]
      simp only [nF, cF]
      rw [e]
theorem readF (I O : List Int) (a b t : Nat) (u r s x : Int) (hx : 1 ≤ x) (ht : t ≤ a) (ha : a ≤ I.length) : ∃ (q : Nat) (h : Int), t + q ≤ a ∧ readN (nF I O a b t u r s) 0 x = (nF I O a b (t + q) u r s, (I.drop t).take q, h) := by
  have hil := cF_inn I O a b t u r s ha
  unfold readN
  rw [if_neg (by omega), nF_on]
  unfold readD
  rw [if_pos (by rfl)]
  by_cases h0 : (cF I O a b t u r s).inn = [] ∧ (cF I O a b t u r s).halved = false
  · rw [if_pos h0]
    exact ⟨0, 4, by omega, by simp [nF]⟩
  · rw [if_neg h0]
    obtain ⟨q, hq⟩ : ∃ q, min x.toNat (a - t) = q := ⟨_, rfl⟩
    refine ⟨q, 0, by omega, ?_⟩
    have e1 : (cF I O a b t u r s).inn.take x.toNat = (I.drop t).take q := by
      have : (cF I O a b t u r s).inn = (I.take a).drop t := rfl
      rw [this, List.drop_take, List.take_take, hq]
    have e2 : (cF I O a b t u r s).inn.drop x.toNat = (I.take a).drop (t + q) := by
      have : (cF I O a b t u r s).inn = (I.take a).drop t := rfl
      rw [this, List.drop_drop]
      rcases Nat.le_total x.toNat (a - t) with h | h
      · rw [show q = x.toNat by omega]
      · rw [List.drop_eq_nil_of_le (by simp; omega), List.drop_eq_nil_of_le (by simp; omega)]
    have e3 : (cF I O a b t u r s).told ++ (I.drop t).take q = I.take (t + q) := by
      have : (cF I O a b t u r s).told = I.take t := rfl
      rw [this, List.take_add]
    rw [e1, e2, e3]
    rfl
end Go.Proofs.Ytkeffebcmajhmaa
