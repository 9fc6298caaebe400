/- The program's net: New, at, theirs, ours by contract. -/
import Derived.Test.YtkeffebcmajhmaaNet1
import Derived.Test.YtkeffebcmajhmaaSlab5
import Derived.Deep.QuietTactic
import Derived.BigQuiet
import Derived.StillTailTactics
import Derived.Deep.LoopGhost
import Derived.Deep.RegionHeld3
import Derived.Deep.RegionLaw
import Derived.Deep.DeepCutAuto
namespace Go.Proofs.Ytkeffebcmajhmaa
open Go.RowKit
set_option linter.unusedVariables false
def pc : Cfg where
  T := 145
  PT := 143
  NT := 142
  lay := fun d vi vo vt => #[.bool d.waits, .bool d.opn, .bool d.broken, .int .i64 d.peer, .bool d.halved, .bool d.shut, .bool d.taken, vi, .int .i64 d.window, .int .i64 d.reads, .int .i64 d.writes, vo, vt]
  nlay := fun N vc vq => #[.int .i64 N.backlog, vc, vq, .bool N.stopped, .int .i64 N.fails, .int .i64 N.marks, .int .i64 N.nopen]
/-- the answer of somebody's side; of the server's. -/
def theirsD (d : Cn) : Int := if d.broken then 5 else if d.waits || d.opn then 0 else 6
def oursD (d : Cn) : Int := if d.waits then 2 else if d.opn then (if d.broken then 5 else 0) else 6
def ptrIf (e : Int) (p : Nat) : Value := if e = 0 then .pointer (some ⟨p, 0, none⟩) else .pointer none
section
variable {w w' : World} {n : Nat} {F : List Nat} {own : Nat → Nat} {ps : List Nat} {vc vq : Value} {N : NS}
/-- where a connection lies. -/
theorem NAt.conn {c : Cfg} (h : NAt c w n F own ps vc vq N) {k : Nat} {d : Cn} (hd : N.cs[k]? = some d) : ∃ p b off cap, ps[k]? = some p ∧ vc = .slice (some ⟨b, off, none⟩) N.cs.length cap ∧ k < N.cs.length ∧ N.cs.length ≤ cap ∧ cap ≤ 9223372036854775807 ∧
    w.cell? ⟨b, off + k, none⟩ = some (.pointer (some ⟨p, 0, none⟩)) ∧ b ≠ n ∧ ∃ vi vo vt, CAt c w own k p d vi vo vt := by
  have hk : k < N.cs.length := (List.getElem?_eq_some_iff.1 hd).1
  obtain ⟨p, hp⟩ : ∃ p, ps[k]? = some p := ⟨ps[k]'(by rw [h.len]; exact hk), List.getElem?_eq_getElem _⟩
  obtain ⟨b, off, cap, hv, hle, hlt, hc, -, -⟩ := h.rc.open_ (by omega)
  have hcap : cap ≤ 9223372036854775807 := by
    obtain ⟨A, c', hv', h1, h2, -⟩ := h.rc.form
    rw [hv] at hv'
    injection hv' with _ _ e
    subst e
    simpa [maxLen] using h2
  refine ⟨p, b, off, cap, hp, hv, hk, hle, hcap, hc k _ (by simp [ptrsV, hp]), ?_, h.at_ k p d hp hd⟩
  rintro rfl
  have h1 := h.oc b (by rw [hv]; rfl)
  rw [h.tn] at h1
  omega
theorem nat_nil (k : Int) (w : World) : Calls Try.prog 76 #[.pointer none, .int .i64 k] w fun e w' => e = .returned (.pointer none) ∧ Keeps [] w w' := by
  go_enter Try.func76, Try.ntmps76
  go_wp2
  go_ret
  exact ⟨rfl, Keeps.refl _ _⟩
theorem nat_in (h : NAt pc w n F own ps vc vq N) (k : Nat) (p : Nat) (hp : ps[k]? = some p) :
    Calls Try.prog 76 #[.pointer (some ⟨n, 0, none⟩), .int .i64 k] w fun e w' => e = .returned (.pointer (some ⟨p, 0, none⟩)) ∧ Keeps [] w w' := by
  have hk : k < N.cs.length := by have := (List.getElem?_eq_some_iff.1 hp).1; rw [h.len] at this; exact this
  obtain ⟨p', b, off, cap, hp', rfl, -, hle, hcap, hc, hbn, -⟩ := h.conn (k := k) (List.getElem?_eq_getElem hk)
  rw [hp] at hp'
  injection hp' with hp'
  subst hp'
  have c1 := h.blk.cell 1
  simp [pc] at c1
  have hki : (k : Int) < N.cs.length := by omega
  clear h hp
  go_enter Try.func76, Try.ntmps76
  go_wp2
  go_ret
  exact ⟨rfl, Keeps.refl _ _⟩
theorem nat_out (h : NAt pc w n F own ps vc vq N) (k : Int) (hk : k < 0 ∨ (0 ≤ k ∧ (N.cs.length : Int) ≤ k)) :
    Calls Try.prog 76 #[.pointer (some ⟨n, 0, none⟩), .int .i64 k] w fun e w' => e = .returned (.pointer none) ∧ Keeps [] w w' := by
  have c1 := h.blk.cell 1
  simp [pc] at c1
  obtain ⟨A, cap, rfl, -⟩ := h.rc.form
  clear h
  rcases hk with hk | ⟨h0, hk⟩
  · go_enter Try.func76, Try.ntmps76
    go_wp2
    go_ret
    exact ⟨rfl, Keeps.refl _ _⟩
  · go_enter Try.func76, Try.ntmps76
    go_wp2
    go_ret
    exact ⟨rfl, Keeps.refl _ _⟩
theorem theirs_nil (k : Int) (w : World) : Calls Try.prog 73 #[.pointer none, .int .i64 k] w fun e w' => e = .returned (.tuple #[.pointer none, .int .i64 1]) ∧ Keeps [] w w' := by
  go_enter Try.func73, Try.ntmps73
  go_wp2_with (go_at_call 76; refine (nat_nil _ _).mono ?_; rintro e w1 ⟨rfl, hk⟩)
  go_ret2
  exact ⟨rfl, hk⟩
theorem ours_nil (k : Int) (w : World) : Calls Try.prog 74 #[.pointer none, .int .i64 k] w fun e w' => e = .returned (.tuple #[.pointer none, .int .i64 1]) ∧ Keeps [] w w' := by
  go_enter Try.func74, Try.ntmps74
  go_wp2_with (go_at_call 76; refine (nat_nil _ _).mono ?_; rintro e w1 ⟨rfl, hk⟩)
  go_ret2
  exact ⟨rfl, hk⟩
theorem theirs_out (h : NAt pc w n F own ps vc vq N) (k : Int) (hk : k < 0 ∨ (0 ≤ k ∧ (N.cs.length : Int) ≤ k)) :
    Calls Try.prog 73 #[.pointer (some ⟨n, 0, none⟩), .int .i64 k] w fun e w' => e = .returned (.tuple #[.pointer none, .int .i64 2]) ∧ Keeps [] w w' := by
  have H := hid h
  have HK := hid hk
  clear h hk
  go_enter Try.func73, Try.ntmps73
  go_wp2_with (go_at_call 76; refine (nat_out H.out _ HK.out).mono ?_; rintro e w1 ⟨rfl, hk⟩)
  go_ret2
  exact ⟨rfl, hk⟩
theorem ours_out (h : NAt pc w n F own ps vc vq N) (k : Int) (hk : k < 0 ∨ (0 ≤ k ∧ (N.cs.length : Int) ≤ k)) :
    Calls Try.prog 74 #[.pointer (some ⟨n, 0, none⟩), .int .i64 k] w fun e w' => e = .returned (.tuple #[.pointer none, .int .i64 2]) ∧ Keeps [] w w' := by
  have H := hid h
  have HK := hid hk
  clear h hk
  go_enter Try.func74, Try.ntmps74
  go_wp2_with (go_at_call 76; refine (nat_out H.out _ HK.out).mono ?_; rintro e w1 ⟨rfl, hk⟩)
  go_ret2
  exact ⟨rfl, hk⟩
theorem theirs_in (h : NAt pc w n F own ps vc vq N) (k : Nat) (p : Nat) (d : Cn) (hp : ps[k]? = some p) (hd : N.cs[k]? = some d) :
    Calls Try.prog 73 #[.pointer (some ⟨n, 0, none⟩), .int .i64 k] w fun e w' => e = .returned (.tuple #[ptrIf (theirsD d) p, .int .i64 (theirsD d)]) ∧ Keeps [] w w' := by
  obtain ⟨vi, vo, vt, hc, -⟩ := h.at_ k p d hp hd
  have H := hid h
  have HP := hid hp
  have c0 := hc.cell 0
  have c1 := hc.cell 1
  have c2 := hc.cell 2
  simp [pc] at c0 c1 c2
  obtain ⟨d0, d1, d2, d3, d4, d5, d6, d7, d8, d9, d10, d11, d12⟩ := d
  simp only at c0 c1 c2
  clear h hp hd hc
  obtain ⟨v, hv⟩ : ∃ v, ptrIf (theirsD ⟨d0, d1, d2, d3, d4, d5, d6, d7, d8, d9, d10, d11, d12⟩) p = v := ⟨_, rfl⟩
  obtain ⟨e, he⟩ : ∃ e, theirsD ⟨d0, d1, d2, d3, d4, d5, d6, d7, d8, d9, d10, d11, d12⟩ = e := ⟨_, rfl⟩
  rw [hv, he]
  rw [he] at hv
  cases d0 <;> cases d1 <;> cases d2
  all_goals
    simp [theirsD] at he
    subst he
    simp [ptrIf] at hv
    subst hv
    go_enter Try.func73, Try.ntmps73
    go_wp2_with (go_at_call 76; refine (nat_in H.out k p HP.out).mono ?_; rintro e w1 ⟨rfl, hk⟩; have e0 := cell_keep hk (by simp) c0; have e1 := cell_keep hk (by simp) c1; have e2 := cell_keep hk (by simp) c2)
    go_ret2
    exact ⟨rfl, hk⟩
theorem ours_in (h : NAt pc w n F own ps vc vq N) (k : Nat) (p : Nat) (d : Cn) (hp : ps[k]? = some p) (hd : N.cs[k]? = some d) :
    Calls Try.prog 74 #[.pointer (some ⟨n, 0, none⟩), .int .i64 k] w fun e w' => e = .returned (.tuple #[ptrIf (oursD d) p, .int .i64 (oursD d)]) ∧ Keeps [] w w' := by
  obtain ⟨vi, vo, vt, hc, -⟩ := h.at_ k p d hp hd
  have H := hid h
  have HP := hid hp
  have c0 := hc.cell 0
  have c1 := hc.cell 1
  have c2 := hc.cell 2
  simp [pc] at c0 c1 c2
  obtain ⟨d0, d1, d2, d3, d4, d5, d6, d7, d8, d9, d10, d11, d12⟩ := d
  simp only at c0 c1 c2
  clear h hp hd hc
  obtain ⟨v, hv⟩ : ∃ v, ptrIf (oursD ⟨d0, d1, d2, d3, d4, d5, d6, d7, d8, d9, d10, d11, d12⟩) p = v := ⟨_, rfl⟩
  obtain ⟨e, he⟩ : ∃ e, oursD ⟨d0, d1, d2, d3, d4, d5, d6, d7, d8, d9, d10, d11, d12⟩ = e := ⟨_, rfl⟩
  rw [hv, he]
  rw [he] at hv
  cases d0 <;> cases d1 <;> cases d2
  all_goals
    simp [oursD] at he
    subst he
    simp [ptrIf] at hv
    subst hv
    go_enter Try.func74, Try.ntmps74
    go_wp2_with (go_at_call 76; refine (nat_in H.out k p HP.out).mono ?_; rintro e w1 ⟨rfl, hk⟩; have e0 := cell_keep hk (by simp) c0; have e1 := cell_keep hk (by simp) c1; have e2 := cell_keep hk (by simp) c2)
    go_ret2
    exact ⟨rfl, hk⟩
/-- a number is one of a connection, or of none. -/
theorem NAt.which {c : Cfg} (h : NAt c w n F own ps vc vq N) (k : Int) : (k < 0 ∨ (0 ≤ k ∧ (N.cs.length : Int) ≤ k)) ∨ ∃ (i p : Nat) (d : Cn), k = i ∧ ps[i]? = some p ∧ N.cs[i]? = some d := by
  by_cases h0 : k < 0
  · exact .inl (.inl h0)
  · by_cases h1 : (N.cs.length : Int) ≤ k
    · exact .inl (.inr ⟨by omega, h1⟩)
    · refine .inr ⟨k.toNat, ps[k.toNat]'(by rw [h.len]; omega), N.cs[k.toNat]'(by omega), by omega, List.getElem?_eq_getElem _, List.getElem?_eq_getElem _⟩
end
end Go.Proofs.Ytkeffebcmajhmaa
