/- The ring: Find and Peek by contract. -/
import Derived.Test.YtkcncnbjojejeaaRing3
namespace Go.Proofs.Ytkcncnbjojejeaa
open Go.RowKit
/-- where a number stands first. -/
def findI (c : Int) (q : List Int) : Int := match q.findIdx? (· == c) with
  | some i => i
  | none => -1
theorem findI_hit {c : Int} {q : List Int} {i : Nat} (hi : i < q.length) (hc : q.getD i 0 = c) (hno : ∀ j, j < i → q.getD j 0 ≠ c) : findI c q = i := by
  have h : q.findIdx? (· == c) = some i := by
    rw [List.findIdx?_eq_some_iff_getElem]
    refine ⟨hi, by simpa [hi] using hc, fun j hj => ?_⟩
    have := hno j hj
    simpa [show j < q.length by omega] using this
  unfold findI
  rw [h]
theorem findI_miss {c : Int} {q : List Int} (hno : ∀ j, j < q.length → q.getD j 0 ≠ c) : findI c q = -1 := by
  have h : q.findIdx? (· == c) = none := by
    rw [List.findIdx?_eq_none_iff]
    intro x hx
    obtain ⟨j, hj, e⟩ := List.getElem_of_mem hx
    have := hno j hj
    simp [hj, e] at this
    simpa using this
  unfold findI
  rw [h]
set_option maxHeartbeats 400000 in
theorem find_any (a g S f : Nat) (q : List Int) (c : Int) (w : World) (h : RingRep w a g S f q) :
    Calls Try.prog 26 #[.pointer (some ⟨a, 0, none⟩), .int .u8 c] w fun e w' => e = .returned (.int .i64 (findI c q)) ∧ Keeps [] w w' := by
  have h2 := h.c2
  have hlen : q.length ≤ 65536 := by have := h.2.2; omega
  go_enter Try.func26, Try.ntmps26
  go_wp2_with (go_at_call 28; refine (len_any a _ _ h2).mono ?_; rintro e w' ⟨rfl, rfl⟩)
  go_loopw [5, 8] (fun _ i wr => ∃ k : Nat, k ≤ q.length ∧ i = .int .i64 k ∧ (∀ j, j < k → q.getD j 0 ≠ c) ∧ RingRep wr a g S f q ∧ Keeps [] w wr) (fun _ i _ => q.length - (intOf i).toNat)
  case atStart => exact ⟨0, Nat.zero_le _, rfl, by simp, h, Keeps.refl _ _⟩
  case round =>
    obtain ⟨k, hk, rfl, hno, hr, hkp⟩ := hrel
    have Hno := hid hno
    clear hno
    by_cases hlt : k < q.length
    · obtain ⟨hb, hS1, hS2, hf, hq, F, hrow, hF⟩ := id hr
      have r0 := hr.c0
      have r1 := hr.c1
      have r2 := hr.c2
      obtain ⟨m, hm⟩ : ∃ m, (f + k) % S = m := ⟨_, rfl⟩
      have hmS : m < S := by rw [← hm]; exact Nat.mod_lt _ (by omega)
      have hc := hrow.cell hmS
      have hFk := hF k hlt
      rw [hm] at hFk
      rw [hFk] at hc
      obtain ⟨x, hx⟩ : ∃ x, q.getD k 0 = x := ⟨_, rfl⟩
      rw [hx] at hc
      have HM := hid hm
      clear hm hF hFk
      by_cases heq : x = c
      · have hceq : (x == c) = true := by simpa using heq
        have hfin := findI_hit hlt (hx.trans heq) Hno.out
        have HF := hid hfin
        clear hfin heq hx
        go_wp2_with fail
        go_quiet ((go_at_call 39; exact Calls.quiet_of (at_nat a f k m S S _ _ HM (by exact r0) (by exact r1) (by omega) (by omega) (by omega) (by omega))))
        go_wp2
        go_ret
        exact ⟨by rw [HF.out]; rfl, hkp.drewN _⟩
      · have hceq : (x == c) = false := by simpa using heq
        have HX := hid hx
        clear hx
        go_wp2_with fail
        go_quiet ((go_at_call 39; exact Calls.quiet_of (at_nat a f k m S S _ _ HM (by exact r0) (by exact r1) (by omega) (by omega) (by omega) (by omega))))
        go_wp2
        go_roundw
        case rel => exact ⟨k + 1, by omega, by go_num, fun j hj => by rcases Nat.lt_succ_iff_lt_or_eq.1 hj with h | h; exact Hno.out j h; subst h; rw [HX.out]; exact heq, hr.keeps ((Keeps.refl [] wr).drewN _) (by simp) (by simp), hkp.drewN _⟩
        case measure => simp [intOf]; omega
    · have hkl : k = q.length := by omega
      subst hkl
      have hfin := findI_miss Hno.out
      have HF := hid hfin
      clear hfin
      go_wp2
      go_ret
      exact ⟨by rw [HF.out]; rfl, hkp⟩
theorem bytesV_take (q : List Int) (k : Nat) (h : k < q.length) : bytesV (q.take (k + 1)) = bytesV (q.take k) ++ [.int .u8 (q.getD k 0)] := by
  unfold bytesV
  rw [List.take_succ_eq_append_getElem h, List.map_append]
  simp [h]
def NewBytes (w : World) (q : List Int) (e : Ending) (w' : World) : Prop := ∃ v, e = .returned v ∧ Row w' 5 1 v q.length (bytesV q) ∧ (∀ k, v.ownBlock = some k → w.heap.size ≤ k) ∧ Keeps [] w w'
set_option maxHeartbeats 400000 in
theorem peek_t (a g S f : Nat) (q : List Int) (k : Nat) (n : Int) (w : World) (h : RingRep w a g S f q) (hk : k ≤ q.length) (hn : (n = k ∨ (k = q.length ∧ k < n) ∨ (k = 0 ∧ n < 0))) :
    Calls Try.prog 23 #[.pointer (some ⟨a, 0, none⟩), .int .i64 n] w (NewBytes w (q.take k)) := by
  obtain ⟨i0, hi0, hz0, hz1, hz2⟩ := info_parts byte_info
  have h2 := h.c2
  have hlen : q.length ≤ 65536 := by have := h.2.2; omega
  obtain ⟨N, hN⟩ : ∃ N, (if (q.length : Int) < n then (q.length : Int) else n) = N := ⟨_, rfl⟩
  have hNk : N = k ∨ (k = 0 ∧ N < 0) := by
    subst hN
    split <;> omega
  go_enter Try.func23, Try.ntmps23
  go_wp2_with (go_at_call 28; refine (len_any a _ _ h2).mono ?_; rintro e w' ⟨rfl, rfl⟩)
  clear hN
  go_loopw [5, 6, 11] (fun v _ i wr => ∃ j : Nat, j ≤ k ∧ i = .int .i64 j ∧ Row wr 5 1 v j (bytesV (q.take j)) ∧ (∀ k, v.ownBlock = some k → w.heap.size ≤ k) ∧ RingRep wr a g S f q ∧ Keeps [] w wr) (fun _ _ i _ => k - (intOf i).toNat)
  case atStart => exact ⟨0, Nat.zero_le _, rfl, Row.nil _ _ _, by simp [Value.ownBlock], h, Keeps.refl _ _⟩
  case round =>
    obtain ⟨j, hj, rfl, hv, hvb, hr, hkp⟩ := hrel
    have hsz := hkp.size
    have hla := h.lt
    by_cases hlt : j < k
    · obtain ⟨hb, hS1, hS2, hf, hq, F, hrow, hF⟩ := id hr
      have r0 := hr.c0
      have r1 := hr.c1
      obtain ⟨m, hm⟩ : ∃ m, (f + j) % S = m := ⟨_, rfl⟩
      have hmS : m < S := by rw [← hm]; exact Nat.mod_lt _ (by omega)
      have hc := hrow.cell hmS
      have hFk := hF j (by omega)
      rw [hm] at hFk
      rw [hFk] at hc
      obtain ⟨x, hx⟩ : ∃ x, q.getD j 0 = x := ⟨_, rfl⟩
      rw [hx] at hc
      have HM := hid hm
      have HX := hid hx
      have HV := hid hv
      have HNa : Hid (a ∉ u5.ownBlock.toList) := fun hx => by have := hvb a (by simpa using hx); omega
      have HNg : Hid (g ∉ u5.ownBlock.toList) := fun hx => by have := hvb g (by simpa using hx); omega
      clear hm hF hFk hx hv
      have hNj : (j : Int) < N := by omega
      go_wp2_with fail
      go_region_held3 (fun w' => w'.cell? ⟨a, 0, none⟩ = some (.slice (some ⟨g, 0, none⟩) S S) ∧ w'.cell? ⟨a, 1, none⟩ = some (.int .i64 f) ∧ w'.cell? ⟨g, m, none⟩ = some (.int .u8 x))
        (first | go_keep | (go_split_ands; refine ⟨?_, ?_, ?_⟩ <;> (first | (rw [hkp'.cell (by simp; omega) HNa.out]; assumption) | (rw [hkp'.cell (by simp; omega) HNg.out]; assumption))))
        (first
          | (refine step_append_row _ (by rfl) _ _ _ (by rfl) 5 i0 _ 1 1 Try.underlying32 hi0 hz0 hz1 hz2 rfl (by omega) _ j _ (by rfl) ((HV.out.drewN _).alloc _) _ 1 1 [.int .u8 x] (by rfl) (reads_new _ _ _ _) (by simp [Value.oneCell']) (by simp only [maxLen]; omega) (by omega) ?_; intro v' w' hrow' hkp' hob)
          | (go_at_call 39; refine (at_nat a f j m S S _ _ HM (by assumption) (by assumption) (by omega) (by omega) (by omega) (by omega)).mono ?_; rintro e w' ⟨rfl, kk, rfl⟩))
      go_wp2
      go_roundw
      case rel =>
        refine ⟨j + 1, by omega, by go_num, ?_, ?_, ?_, ?_⟩
        · rw [bytesV_take q j (by omega), HX.out]; exact hrow'
        · intro y hy; rcases hob y hy with h | h
          · exact hvb y h
          · simp at h; omega
        · exact (hr.keeps (((Keeps.refl [] wr).drewN _).alloc _) (by simp) (by simp)).keeps hkp' HNa.out HNg.out
        · exact ((hkp.drewN _).alloc _).trans hkp' (fun y hy => .inr (hvb y (by simpa using hy)))
      case measure => simp [intOf]; omega
    · have hjk : j = k := by omega
      subst hjk
      have hNj : ¬ (j : Int) < N := by omega
      go_wp2
      go_ret
      exact ⟨_, rfl, by rw [List.length_take, Nat.min_eq_left hk]; exact hv, hvb, hkp⟩

theorem peek_any (a g S f : Nat) (q : List Int) (n : Int) (w : World) (h : RingRep w a g S f q) :
    Calls Try.prog 23 #[.pointer (some ⟨a, 0, none⟩), .int .i64 n] w (NewBytes w (q.take (clip n q.length))) :=
  peek_t a g S f q (clip n q.length) n w h (clip_le _ _) (clip_cases _ _)
end Go.Proofs.Ytkcncnbjojejeaa
