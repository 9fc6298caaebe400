/- Put, by both slabs. -/
import Derived.Test.YtkeffebcmajhmaaSlabSt
namespace Go.Proofs.Ytkeffebcmajhmaa
open Go.RowKit
set_option linter.unusedVariables false
def PutPost (w : World) (s : Nat) (F : List Nat) (lim : Int) (L' : List Slot) (n' bi bg be : Int) (e : Ending) (w' : World) : Prop :=
  e = .returned (.tuple #[.agg #[.int .i64 bi, .int .i64 bg], .int .i64 be]) ∧ (∃ F', SRep w' s F' lim L' n' ∧ Later F w F') ∧ Keeps F w w'
def RPutPost (w : World) (x : Nat) (G : List Nat) (lim : Int) (L' : List Slot) (n' bi bg be : Int) (e : Ending) (w' : World) : Prop :=
  e = .returned (.tuple #[.agg #[.int .i64 bi, .int .i64 bg], .int .i64 be]) ∧ (∃ G', RS w' x G' lim L' n' ∧ Later G w G') ∧ Keeps G w w'
theorem both_put {w W1 : World} {s x k : Nat} {F G : List Nat} {lim n : Int} {L : List Slot} {gv : Value} {hs : List (Int × Int)} (h : SPB w W1 s x k F G lim L n gv hs) (v : Int) (hk : k ≤ 1000) (hlim : lim ≤ 4096) :
    ∃ bi bg be L' n', (∀ W, Keeps [] W1 W → Calls Try.prog 20 #[.pointer (some ⟨s, 0, none⟩), .int .i64 v] W (PutPost W s F lim L' n' bi bg be)) ∧
      (∀ Wq W, Keeps F W1 Wq → Keeps [] Wq W → Calls Try.prog 26 #[.pointer (some ⟨x, 0, none⟩), .int .i64 v] W (RPutPost W x G lim L' n' bi bg be)) ∧
      (∀ d ∈ L', 0 ≤ d.1 ∧ d.1 ≤ ((k + 1 : Nat) : Int)) ∧ L'.length ≤ k + 1 ∧ n ≤ n' ∧ n' ≤ lim := by
  obtain ⟨a1, a2, a3, a4, a5, a6, a7, a8, a9, a10, a11, a12, a13, a14⟩ := h
  by_cases hn : n = lim
  · refine ⟨0, 0, 3, L, n, fun W hW => ?_, fun Wq W hWq hW => ?_, fun d hd => ⟨(a6 d hd).1, by have := (a6 d hd).2; omega⟩, by omega, Int.le_refl _, a9⟩
    · have h1 := a1.keeps hW (by simp)
      have h2 : SRep W s F lim L lim := by rw [← hn]; rw [hn] at h1 ⊢; exact h1
      refine (sput_full s F lim L v W h2).mono ?_
      rintro e w' ⟨rfl, hk⟩
      exact ⟨rfl, ⟨F, h1.keeps hk (by simp), Later.refl _ _⟩, hk.mono (by simp)⟩
    · have h1 := (a2.keeps hWq (fun j hj hx => a5 j hx hj)).keeps hW (by simp)
      refine (rsput_full x G lim L v n W h1 (by omega)).mono ?_
      rintro e w' ⟨rfl, hk⟩
      exact ⟨rfl, ⟨G, h1.keeps hk (by simp), Later.refl _ _⟩, hk.mono (by simp)⟩
  · have hne : (n == lim) = false := by simp [hn]
    have hg : ∀ d ∈ L, 0 ≤ d.1 ∧ d.1 ≤ 1099511627776 := fun d hd => ⟨(a6 d hd).1, by have := (a6 d hd).2; omega⟩
    have hp := gens_put v a6
    refine ⟨(freeAt L : Nat), putG L, 0, putL L v, n + 1, fun W hW => ?_, fun Wq W hWq hW => ?_, hp.1, by omega, by omega, by omega⟩
    · exact (sput_any s F lim n L v W (a1.keeps hW (by simp)) hne hg (by omega) (by omega) (by omega)).mono fun e w' h => h
    · exact (rsput_any x G lim n L v W ((a2.keeps hWq (fun j hj hx => a5 j hx hj)).keeps hW (by simp)) (by omega) hg (by omega) (by omega) (by omega)).mono fun e w' h => h
end Go.Proofs.Ytkeffebcmajhmaa
