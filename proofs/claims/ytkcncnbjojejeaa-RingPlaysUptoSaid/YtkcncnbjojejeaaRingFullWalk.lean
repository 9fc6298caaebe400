/- The walk of RingFull. -/
import Derived.Test.YtkcncnbjojejeaaNil3
namespace Go.Proofs.Ytkcncnbjojejeaa
open Go.RowKit
set_option maxHeartbeats 1000000 in
theorem ringFull_out (w : World) (size : Int) (A B : Option Addr) (la lb ca cb : Nat) (hg : size < 1 ∨ (1 ≤ size ∧ 1000 < size) ∨ (1 ≤ size ∧ size ≤ 1000 ∧ 6000 < la) ∨ (1 ≤ size ∧ size ≤ 1000 ∧ la ≤ 6000 ∧ 6000 < lb)) :
    Calls Try.prog 7 #[.int .i64 size, .slice A la ca, .slice B lb cb] w fun e w' => e = .returned (.bool true) ∧ Below w.heap.size w w' := by
  rcases hg with h | ⟨h0, h⟩ | ⟨h0, h1, h⟩ | ⟨h0, h1, h2, h⟩
  all_goals
    go_enter Try.func7, Try.ntmps7
    go_wp2_with (go_at_call 13; refine (known_any _).mono ?_; rintro e w5 ⟨rfl, hk5⟩)
    go_ret
    exact ⟨rfl, hk5.below (Nat.le_refl _) (by simp)⟩
theorem peek_all (a g S f : Nat) (q : List Int) (n : Int) (w : World) (h : RingRep w a g S f q) (hn : (q.length : Int) ≤ n) :
    Calls Try.prog 23 #[.pointer (some ⟨a, 0, none⟩), .int .i64 n] w (NewBytes w q) := by
  have hp := peek_t a g S f q q.length n w h (Nat.le_refl _) (by omega)
  rwa [List.take_length] at hp
theorem room_ring (a g S f K : Nat) (q : List Int) (w : World) (h : RingRep w a g S f q) (hq : q.length = K) :
    Calls Try.prog 29 #[.pointer (some ⟨a, 0, none⟩)] w fun e w' => e = .returned (.int .i64 (S - K)) ∧ Keeps [] w w' := by
  subst hq
  have h5 := h.2.2.2.2.1
  refine (room_any a q.length S S _ w h.c0 h.c2 (by omega) (by omega) h.2.2.1).mono ?_
  rintro e w' ⟨rfl, k, rfl⟩
  exact ⟨rfl, (Keeps.refl _ _).drewN _⟩
set_option maxRecDepth 100000 in
set_option maxHeartbeats 2000000 in
theorem ringFull_in (w : World) (S : Nat) (h1 : 1 ≤ S) (h2 : S ≤ 1000) (A B : Option Addr) (ca cb : Nat) (a b : List Int) (ha : CellsIn w [] (.slice A a.length ca) (a.map (.int .u8))) (hb : CellsIn w [] (.slice B b.length cb) (b.map (.int .u8)))
    (hla : a.length ≤ 6000) (hlb : b.length ≤ 6000) :
    Calls Try.prog 7 #[.int .i64 S, .slice A a.length ca, .slice B b.length cb] w fun e w' => e = .returned (.bool true) ∧ Below w.heap.size w w' := by
  obtain ⟨i0, hi0, hz0, hz1, hz2⟩ := info_parts byte_info
  obtain ⟨K, hK⟩ : ∃ K, min S (a.length + b.length) = K := ⟨_, rfl⟩
  have hKS : K ≤ S := by omega
  have hKL : K ≤ a.length + b.length := by omega
  have hm1 : (if (a.length : Int) + b.length < S then (a.length : Int) + b.length else S) = K := by split <;> omega
  obtain ⟨M, hM⟩ : ∃ M, min 1 (S - K) = M := ⟨_, rfl⟩
  have hm2 : (if (S : Int) - K < 1 then (S : Int) - K else 1) = M := by split <;> omega
  have HM := hid hM
  clear hM
  have hql : ((a ++ b).take K).length = K := by simp; omega
  have HP1 : Hid (poured S [] [(.slice A a.length ca, a), (.slice B b.length cb, b)] = (a ++ b).take K) := by
    show List.take S _ = _
    simp only [List.nil_append, List.map_cons, List.map_nil, List.flatten_cons, List.flatten_nil, List.append_nil]
    exact List.take_eq_take_iff.2 (by simp; omega)
  have HQL := hid hql
  have HA := hid ha
  have HB := hid hb
  obtain ⟨Q, hQ⟩ : ∃ Q, (a ++ b).take K = Q := ⟨_, rfl⟩
  rw [hQ] at HP1 HQL
  have HQ := hid hQ
  clear ha hb hK hql hQ
  have c1 : ¬ (S : Int) < 1 := by omega
  have c2 : ¬ (1000 : Int) < S := by omega
  have c3 : ¬ (6000 : Int) < a.length := by omega
  have c4 : ¬ (6000 : Int) < b.length := by omega
  have hw1 : IntKind.i64.wrap ((S : Int) - K) = S - K := IntWalk.i64_in _ (by omega)
  have hw2 : IntKind.i64.wrap ((S : Int) + 5) = S + 5 := IntWalk.i64_in _ (by omega)
  go_enter Try.func7, Try.ntmps7
  go_wp2_with fail
  refine (new_ok S _ h1 (by omega)).mono ?_
  rintro e w1 ⟨rfl, hr, hk⟩
  obtain ⟨x, hx⟩ : ∃ x, w.heap.size + 1 = x := ⟨_, rfl⟩
  obtain ⟨g, hg⟩ : ∃ g, w.heap.size = g := ⟨_, rfl⟩
  rw [hx, hg] at hr
  rw [hx]
  have hlx := hr.lt.1
  have hlg := hr.lt.2
  have hfx : w.heap.size ≤ x := by omega
  have hfg : w.heap.size ≤ g := by omega
  clear hx hg
  go_wp2_with fail
  refine (write_any x g S 0 [] Q K _ [(.slice A a.length ca, a), (.slice B b.length cb, b)] _ ?_ ?_ ?_ HP1.out ?_).mono ?_
  · exact hr.keeps ((Keeps.refl [] w1).alloc _) (by simp) (by simp)
  · have h := CellsIn.newM w1 [x, g] [.slice A a.length ca, .slice B b.length cb] 32 (0, 0) (by simp; omega) (by simp)
    simpa using h
  · intro r hr0
    simp only [List.mem_cons, List.not_mem_nil, or_false] at hr0
    rcases hr0 with rfl | rfl
    · exact (CellsIn.old HA.out (G := [x, g]) (by simp; omega)).keeps (hk.alloc _) (by simp)
    · exact (CellsIn.old HB.out (G := [x, g]) (by simp; omega)).keeps (hk.alloc _) (by simp)
  · rw [HQL.out]; simp
  rintro e w2 ⟨rfl, hr2, hk2⟩
  have hk2' : Keeps [] w w2 := (hk.alloc _).trans hk2 (by simp; omega)
  clear hk hr hk2
  have hsz2 := hk2'.size
  have HA2 := hid (CellsIn.keeps HA.out (hk2'.alloc (.cells #[] 5)) (by simp)).reads.2
  go_wp2_with (first
    | (at_builtin; refine wpList_append_row _ rfl (.tmp 45) (.tmp 46) _ rfl 5 i0 _ 1 1 Try.underlying32 hi0 hz0 hz1 hz2 rfl (by omega) (.slice (some ⟨w2.heap.size, 0, none⟩) 0 0) 0 [] rfl (Row.empty w2 _) A a.length ca _ rfl HA2.out (by simp [Value.oneCell']) (by simp only [maxLen]; omega) (by omega) ?_; intro v3 w3 hv3 hk3 hob3; simp only [Nat.zero_add, List.nil_append] at hv3; have hk3' : Keeps [] w w3 := (hk2'.alloc _).trans hk3 (by simp [Value.ownBlock]; omega); have HB2 := hid (CellsIn.keeps HB.out hk3' (by simp)).reads.2; have HV3 := hid hv3; have HO3 := hid hob3; have HK3 := hid hk3; clear hv3 hob3 hk3)
    | (at_builtin; refine wpList_append_row _ rfl (.tmp 47) (.tmp 48) _ rfl 5 i0 _ 1 1 Try.underlying32 hi0 hz0 hz1 hz2 rfl (by omega) v3 a.length _ rfl HV3.out B b.length cb _ rfl HB2.out (by simp [Value.oneCell']) (by simp only [maxLen]; omega) (by omega) ?_; intro v4 w4 hv4 hk4 hob4; obtain ⟨A4, c4, rfl, hl4, hm4, -, -⟩ := hv4.form))
  have hv3b : ∀ k, v3.ownBlock = some k → w2.heap.size ≤ k := by
    intro k hk
    rcases HO3.out k hk with h | h
    · simp [Value.ownBlock] at h; omega
    · simp at h; omega
  have hsz3 := hk3'.size
  have hsz23 : w2.heap.size ≤ w3.heap.size := by have := HK3.out.size; simp at this; omega
  have hlx2 := hr2.lt.1
  have hlg2 := hr2.lt.2
  have hk4' : Keeps [] w w4 := hk3'.trans hk4 (fun y hy => .inr (by have := hv3b y (by simpa using hy); omega))
  have hr3 : RingRep w3 x g S 0 Q := (hr2.keeps ((Keeps.refl [] w2).alloc (.cells #[] 5)) (by simp) (by simp)).keeps HK3.out (by simp [Value.ownBlock]; omega) (by simp [Value.ownBlock]; omega)
  have hr4 : RingRep w4 x g S 0 Q := hr3.keeps hk4 (fun hy => by have := hv3b x (by simpa using hy); omega) (fun hy => by have := hv3b g (by simpa using hy); omega)
  have hall := hv4.cellsIn (F := [x, g]) (fun k hk hm => by
    have h5 : w2.heap.size ≤ k := by
      rcases hob4 k hk with h | h
      · exact hv3b k h
      · omega
    simp at hm; omega)
  have hall2 : CellsIn w4 [x, g] (.slice A4 K c4) (bytesV Q) := by
    have h := hall.take (k := K) hKL
    rw [← HQ.out]
    simpa [bytesV] using h
  have HALL := hid hall2
  clear hall hall2 hv4 hob4 hk4 hr3 hr2 HA HB
  have hcap : K ≤ c4 := by omega
  go_region_held3 (fun _ => True) (first | trivial | exact trivial)
    (first
      | (go_at_call 23; refine (peek_all x g S 0 Q _ _ (by exact hr4) (by rw [HQL.out]; omega)).mono ?_; rintro e w5 ⟨v5, rfl, hv5, hvf5, hk5a⟩; have hk5 : Keeps [] w4 w5 := (by first | exact hk5a.pre | exact hk5a.pre1 | exact hk5a); have hr5 := hr4.keeps hk5 (by simp) (by simp); have h5a := hid (hv5.cellsIn (F := []) (by simp)); have h5b := hid ((CellsIn.mono HALL.out (G := []) (by simp)).keeps hk5 (by simp)); have hk5' := hid (hk4'.trans hk5 (by simp)); clear hv5 hk5 hk5a)
      | (go_at_call 24; refine (same_any _ _ Q Q _ (by exact h5a.out) (by exact h5b.out)).mono ?_; rintro e w6 ⟨rfl, hk6a⟩; rw [sameB_self]; have hk6 : Keeps [] w5 w6 := (by first | exact hk6a.pre | exact hk6a.pre1 | exact hk6a); have hr6 := hr5.keeps hk6 (by simp) (by simp); have hk6' := hid (hk5'.out.trans hk6 (by simp)); clear hk6 hk6a)
      | (go_at_call 29; refine (room_ring x g S 0 K Q _ (by exact hr6) HQL.out).mono ?_; rintro e w7 ⟨rfl, hk7a⟩; have hk7 : Keeps [] w6 w7 := (by first | exact hk7a.pre | exact hk7a.pre1 | exact hk7a); have hr7 := hr6.keeps hk7 (by simp) (by simp); have hk7' := hid (hk6'.out.trans hk7 (by simp)); have h7x := hr7.lt.1; have h7g := hr7.lt.2; clear hk7 hk7a)
      | (go_at_call 17; refine (write_any x g S 0 Q (Q ++ [1].take (S - K)) M _ [(.slice (some ⟨w7.heap.size, 0, none⟩) 1 1, [1])] _ ?_ ?_ ?_ ?_ ?_).mono ?_; (exact hr7.keeps (((Keeps.refl [] w7).alloc _).alloc _) (by simp) (by simp)); (simpa using CellsIn.newM (w7.alloc (.cells #[.int .u8 1] 5)) [x, g] [.slice (some ⟨w7.heap.size, 0, none⟩) 1 1] 32 (0, 0) (by simp; omega) (by simp)); (intro r hr0; simp only [List.mem_cons, List.not_mem_nil, or_false] at hr0; subst hr0; simpa [bytesV] using (CellsIn.newM w7 [x, g] [.int .u8 1] 5 (0, 0) (by simp; omega) (by simp)).alloc (.cells #[.slice (some ⟨w7.heap.size, 0, none⟩) 1 1] 32)); (have hp := poured_snoc (S := S) (q := Q) [] (.slice (some ⟨w7.heap.size, 0, none⟩) 1 1, [1]); rw [poured_nil (by rw [HQL.out]; exact hKS), HQL.out] at hp; exact hp); (have h1 := HM.out; simp; omega); rintro e w8 ⟨rfl, hr8, hk8⟩; have hk8' := hid (((hk7'.out.alloc _).alloc _).trans hk8 (by simp; omega)); clear hk8)
      | (go_at_call 13; refine (known_any _).mono ?_; rintro e w9 ⟨rfl, hk9a⟩; have hk9 : Keeps [] w8 w9 := (by first | exact hk9a.pre | exact hk9a.pre1 | exact hk9a)))
  all_goals
    go_wp2
    go_ret
    exact ⟨rfl, (hk8'.out.trans hk9 (by simp)).below (Nat.le_refl _) (by simp)⟩
theorem ringFull_walk (w : World) (size : Int) (_ : (Lit.int .i64 size).wf = true) (av : Value) (a : List Int) (ha : CellsIn w [] av (a.map (.int .u8))) (_ : ∀ n ∈ a, (Lit.int .u8 n).wf = true)
    (bv : Value) (b : List Int) (hb : CellsIn w [] bv (b.map (.int .u8))) (_ : ∀ n ∈ b, (Lit.int .u8 n).wf = true) :
    Calls Try.prog 7 #[.int .i64 size, av, bv] w fun e w' => e = .returned (.bool true) ∧ Below w.heap.size w w' := by
  obtain ⟨A, ca, rfl, -, -⟩ := ha.shape
  obtain ⟨B, cb, rfl, -, -⟩ := hb.shape
  simp only [List.length_map] at ha hb ⊢
  by_cases hg : 1 ≤ size ∧ size ≤ 1000 ∧ a.length ≤ 6000 ∧ b.length ≤ 6000
  · obtain ⟨h1, h2, h3, h4⟩ := hg
    obtain ⟨S, rfl⟩ := Int.eq_ofNat_of_zero_le (by omega : 0 ≤ size)
    exact ringFull_in w S (by omega) (by omega) A B ca cb a b ha hb h3 h4
  · exact ringFull_out w size A B _ _ ca cb (by omega)
end Go.Proofs.Ytkcncnbjojejeaa
