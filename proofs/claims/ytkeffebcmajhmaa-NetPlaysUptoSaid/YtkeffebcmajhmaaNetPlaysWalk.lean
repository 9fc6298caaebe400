/- The walk of NetPlays. -/
import Derived.Test.YtkeffebcmajhmaaNDoes5
import Derived.Test.YtkeffebcmajhmaaNet18
namespace Go.Proofs.Ytkeffebcmajhmaa
open Go.RowKit
set_option linter.unusedVariables false
set_option linter.unusedSimpArgs false
theorem does_any (w : World) (F G : List Nat) (n x : Nat) (N : NS) (B : Int) (d : NAct) (P : DoesPre w F G n x N B d.n d.bv d.b d.av d.a) :
    Calls Try.prog 59 #[.pointer (some ⟨n, 0, none⟩), .pointer (some ⟨x, 0, none⟩), .agg #[.int .i64 d.k, .int .i64 d.c, .int .i64 d.n, d.bv, d.av]] w (DoesPost w F G n x B) := by
  obtain ⟨k, c, m, bv, b, av, a⟩ := d
  simp only at P ⊢
  by_cases h1 : k = 1
  · subst h1; exact does_1 w F G n x N B c m bv b av a P
  by_cases h2 : k = 2
  · subst h2; exact does_2 w F G n x N B c m bv b av a P
  by_cases h3 : k = 3
  · subst h3; exact does_3 w F G n x N B c m bv b av a P
  by_cases h4 : k = 4
  · subst h4; exact does_4 w F G n x N B c m bv b av a P
  by_cases h5 : k = 5
  · subst h5; exact does_5 w F G n x N B c m bv b av a P
  by_cases h6 : k = 6
  · subst h6; exact does_6 w F G n x N B c m bv b av a P
  by_cases h7 : k = 7
  · subst h7; exact does_7 w F G n x N B c m bv b av a P
  by_cases h8 : k = 8
  · subst h8; exact does_8 w F G n x N B c m bv b av a P
  by_cases h9 : k = 9
  · subst h9; exact does_9 w F G n x N B c m bv b av a P
  by_cases h10 : k = 10
  · subst h10; exact does_10 w F G n x N B c m bv b av a P
  by_cases h11 : k = 11
  · subst h11; exact does_11 w F G n x N B c m bv b av a P
  by_cases h12 : k = 12
  · subst h12; exact does_12 w F G n x N B c m bv b av a P
  exact does_0 w k ⟨h1, h2, h3, h4, h5, h6, h7, h8, h9, h10, h11, h12⟩ F G n x N B c m bv b av a P
/-- both nets, after so many acts. -/
def NL (w wr : World) (n x k : Nat) (N : NS) : Prop :=
  ∃ F G, NRep pc wr n F N ∧ NRep rc wr x G N ∧ (∀ k ∈ F, k ∉ G) ∧ (∀ k ∈ F, w.heap.size ≤ k) ∧ (∀ k ∈ G, w.heap.size ≤ k) ∧ Keeps [] w wr ∧ OkN N ((k * 2097152 : Nat) : Int)
theorem NL.next {w wr w' : World} {n x k : Nat} {N : NS} (h : NL w wr n x k N) (hk : Keeps [] wr w') : NL w w' n x k N := by
  obtain ⟨F, G, h1, h2, h3, h4, h5, h6, h7⟩ := h
  exact ⟨F, G, h1.keeps hk (by simp), h2.keeps hk (by simp), h3, h4, h5, h6.trans hk (by simp), h7⟩
theorem NL.keepsW {w wr : World} {n x k : Nat} {N : NS} (h : NL w wr n x k N) : Keeps [] w wr := by
  obtain ⟨F, G, h1, h2, h3, h4, h5, h6, h7⟩ := h
  exact h6
theorem does_L {w wr : World} {n x k : Nat} {N : NS} (h : NL w wr n x k N) (hk : k ≤ 150) (d : NAct) (hb : CellsIn w [] d.bv (bytesV d.b)) (ha : CellsIn w [] d.av (bytesV d.a)) (lb : d.b.length ≤ 1048576) (la : d.a.length ≤ 1048576) (m0 : -9223372036854775808 ≤ d.n) (m1 : d.n ≤ 9223372036854775807) :
    Calls Try.prog 59 #[.pointer (some ⟨n, 0, none⟩), .pointer (some ⟨x, 0, none⟩), .agg #[.int .i64 d.k, .int .i64 d.c, .int .i64 d.n, d.bv, d.av]] wr fun e w' => e = .returned (.bool true) ∧ ∃ N', NL w w' n x (k + 1) N' := by
  obtain ⟨F, G, h1, h2, h3, h4, h5, h6, h7⟩ := h
  have hFG : ∀ g ∈ F ++ G, w.heap.size ≤ g := fun g hg => by
    rcases List.mem_append.1 hg with e | e
    · exact h4 g e
    · exact h5 g e
  have hz := h6.size
  refine (does_any wr F G n x N _ d ⟨h1, h2, h3, h7, by omega, by omega, (hb.old hFG).keeps h6 (by simp), (ha.old hFG).keeps h6 (by simp), lb, la, m0, m1⟩).mono ?_
  rintro e w' ⟨rfl, N', hok, F', G', g1, g2, g3, g4, g5, g6⟩
  refine ⟨rfl, N', F', G', g1, g2, g5, fun j hj => ?_, fun j hj => ?_, h6.trans g6 (fun j hj => .inr (hFG j hj)), hok.mono (by omega)⟩
  · rcases g3 j hj with e | e
    · exact h4 j e
    · omega
  · rcases g4 j hj with e | e
    · exact h5 j e
    · omega
theorem stood_L {w wr : World} {n x k : Nat} {N : NS} (h : NL w wr n x k N) (hk : k ≤ 151) (c : Int) :
    Calls Try.prog 60 #[.pointer (some ⟨n, 0, none⟩), .pointer (some ⟨x, 0, none⟩), .int .i64 c] wr fun e w' => e = .returned (.bool true) ∧ NL w w' n x k N := by
  have h0 := h
  obtain ⟨F, G, h1, h2, h3, h4, h5, h6, h7⟩ := h
  exact (stood_any n x F G N _ c wr h1 h2 h7 (by omega)).mono fun e w' ⟨he, hk⟩ => ⟨he, h0.next hk⟩
theorem len_L {w wr : World} {n x k : Nat} {N : NS} (h : NL w wr n x k N) :
    Calls Try.prog 38 #[.pointer (some ⟨n, 0, none⟩)] wr fun e w' => e = .returned (.tuple #[.int .i64 N.queue.length, .int .i64 N.nopen]) ∧ NL w w' n x k N := by
  have h0 := h
  obtain ⟨F, G, h1, h2, h3, h4, h5, h6, h7⟩ := h
  exact (len_any n F N wr h1).mono fun e w' ⟨he, hk⟩ => ⟨he, h0.next hk⟩
theorem rlen_L {w wr : World} {n x k : Nat} {N : NS} (h : NL w wr n x k N) :
    Calls Try.prog 61 #[.pointer (some ⟨x, 0, none⟩)] wr fun e w' => e = .returned (.tuple #[.int .i64 N.queue.length, .int .i64 N.nopen]) ∧ NL w w' n x k N := by
  have h0 := h
  obtain ⟨F, G, h1, h2, h3, h4, h5, h6, h7⟩ := h
  exact (rlen_any x G N _ wr h2 h7).mono fun e w' ⟨he, hk⟩ => ⟨he, h0.next hk⟩
theorem NL.list {w wr : World} {n x k : Nat} {N : NS} (h : NL w wr n x k N) : ∃ A c, wr.cell? ⟨x, 1, none⟩ = some (.slice A N.cs.length c) ∧ N.cs.length ≤ 65536 := by
  obtain ⟨F, G, h1, ⟨own, ps, vc, vq, h2⟩, h3, h4, h5, h6, h7⟩ := h
  have c1 := h2.blk.cell 1
  simp [rc] at c1
  obtain ⟨A, c, rfl, -⟩ := h2.rc.form
  exact ⟨A, c, c1, h7.cl⟩
theorem NL.start {w w1 w2 w3 : World} {b : Int} (hk1 : Keeps [] w w1) (h1 : NRep pc w2 w1.heap.size [w1.heap.size] (newN b)) (k2 : Keeps [] w1 w2) (h2 : NRep rc w3 w2.heap.size [w2.heap.size] (newN b)) (k3 : Keeps [] w2 w3) (b1 : 1 ≤ b) (b2 : b ≤ 64) : NL w w3 w1.heap.size w2.heap.size 0 (newN b) := by
  have z1 := hk1.size
  have z2 := k2.size
  have hlt := h1.flt _ h1.mem
  refine ⟨_, _, h1.keeps k3 (by simp), h2, ?_, ?_, ?_, (hk1.trans k2 (by simp)).trans k3 (by simp), okN_new b b1 b2⟩
  · intro k hk
    simp at hk ⊢
    omega
  · intro k hk
    simp at hk
    omega
  · intro k hk
    simp at hk
    omega
set_option maxRecDepth 100000 in
set_option maxHeartbeats 16000000 in
theorem netPlays_walk (w : World) (b : Int) (_ : (Lit.int .i64 b).wf = true) (lv : Value) (l : List NAct) (hl : NActsIn w lv l) (hs : ∀ a ∈ l, a.b.length ≤ 1048576 ∧ a.a.length ≤ 1048576) :
    Calls Try.prog 14 #[.int .i64 b, lv] w fun e w' => e = .returned (.bool true) ∧ Below w.heap.size w w' := by
  have HL := hid hl
  have HS := hid hs
  obtain ⟨A, c, rfl, h1, h2⟩ := hl.shape
  clear hl hs
  go_enter Try.func14, Try.ntmps14
  go_wp2_with fail
  refine (nheavy_any _ l w HL.out HS.out).mono ?_
  rintro e w1 ⟨⟨r, rfl⟩, hk1⟩
  have HK1 := hid hk1
  clear hk1
  cases r with
  | true =>
    go_wp2_with fail
    refine (nknown_any _).mono ?_
    rintro e w2 ⟨rfl, hk2⟩
    have HK2 := hid hk2
    clear hk2
    go_wp2_with fail
    go_ret
    exact ⟨rfl, (HK1.out.trans HK2.out (by simp)).below (Nat.le_refl _) (by simp)⟩
  | false =>
    by_cases hb : b < 1 ∨ (1 ≤ b ∧ 64 < b)
    · go_wp2_with fail
      refine (nnew_bad b w1 hb).mono ?_
      rintro e w2 ⟨rfl, rfl⟩
      go_wp2_with fail
      refine (rnnew_bad b w1 hb).mono ?_
      rintro e w3 ⟨rfl, rfl⟩
      go_wp2_with fail
      refine (nknown_any _).mono ?_
      rintro e w2 ⟨rfl, hk2⟩
      have HK2 := hid hk2
      clear hk2
      go_wp2_with fail
      go_ret
      exact ⟨rfl, (HK1.out.trans HK2.out (by simp)).below (Nat.le_refl _) (by simp)⟩
    · have hb1 : 1 ≤ b := by omega
      have hb2 : b ≤ 64 := by omega
      clear hb
      go_wp2_with fail
      refine (nnew_ok b w1 hb1 hb2).mono ?_
      rintro e w2 ⟨rfl, hn, hk2⟩
      go_wp2_with fail
      refine (rnnew_ok b w2 hb1 hb2).mono ?_
      rintro e w3 ⟨rfl, hx, hk3⟩
      have HNL := hid (NL.start HK1.out hn hk2 hx hk3 hb1 hb2)
      clear hn hx hk2 hk3 HK1
      go_wp2_with fail
      go_loopw [9, 10, 11, 12, 13] (fun i _ _ _ _ wr => ∃ (k : Nat) (N : NS), k ≤ l.length ∧ k ≤ 150 ∧ i = .int .i64 k ∧ NL w wr w1.heap.size w2.heap.size k N) (fun i _ _ _ _ _ => l.length - (intOf i).toNat)
      case atStart => exact ⟨0, _, Nat.zero_le _, by omega, rfl, HNL.out⟩
      case round =>
        clear HNL
        obtain ⟨k, N, hk, hk150, rfl, hN⟩ := hrel
        have HN := hid hN
        clear hN
        by_cases hlt : k < l.length ∧ k < 150
        · obtain ⟨hl1, hl2⟩ := hlt
          obtain ⟨a, ha⟩ : ∃ a, l[k]? = some a := ⟨l[k], by simp [hl1]⟩
          have hkw := HN.out.keepsW
          obtain ⟨bb, o, rfl, hc⟩ := (HL.out.keeps hkw).at_ (by omega)
          obtain ⟨c0, c1, c2, c3, c4⟩ := hc k a ha
          obtain ⟨bb', o', hve, hcw⟩ := HL.out.at_ (by omega)
          injection hve with hve
          injection hve with e1 e2 _
          subst e1 e2
          have HCW := hid (hcw k a ha).2.1
          have hrow := HL.out.rows a (List.mem_of_getElem? ha)
          have hsz := HS.out a (List.mem_of_getElem? ha)
          have HROW := hid hrow
          have HSZ := hid hsz
          clear hc hcw ha hrow hsz hkw
          go_wp2_with fail
          refine (does_L HN.out hk150 a HROW.out.1 HROW.out.2.1 HSZ.out.1 HSZ.out.2 HROW.out.2.2.1 HROW.out.2.2.2).mono ?_
          rintro e w4 ⟨rfl, N2, hN2⟩
          have HN2 := hid hN2
          have g1 := cell_keep HN2.out.keepsW (by simp) HCW.out
          clear hN2
          go_wp2_with fail
          refine (stood_L HN2.out (by omega) a.c).mono ?_
          rintro e w5 ⟨rfl, hN3⟩
          have HN3 := hid hN3
          clear hN3
          go_wp2_with fail
          refine (stood_L HN3.out (by omega) (-1)).mono ?_
          rintro e w6 ⟨rfl, hN4⟩
          have HN4 := hid hN4
          clear hN4 HN2 HN3
          go_wp2_with fail
          refine (len_L HN4.out).mono ?_
          rintro e w7 ⟨rfl, hN5⟩
          have HN5 := hid hN5
          clear hN5 HN4
          go_wp2_with fail
          refine (rlen_L HN5.out).mono ?_
          rintro e w8 ⟨rfl, hN6⟩
          have HN6 := hid hN6
          clear hN6 HN5
          go_wp2_with fail
          go_roundw
          case rel => exact ⟨k + 1, N2, by omega, by omega, by go_num, HN6.out⟩
          case measure => simp [intOf] <;> omega
        · rcases (by omega : ¬ k < l.length ∨ (k < l.length ∧ ¬ k < 150)) with h | ⟨h0, h⟩
          all_goals
            go_wp2_with fail
            obtain ⟨LA, lc, hlc, hl64⟩ := HN.out.list
            obtain ⟨M, hM⟩ : ∃ M, N.cs.length = M := ⟨_, rfl⟩
            have HM := hid hM
            rw [hM] at hlc hl64
            clear hM hlc
            go_loopw [14] (fun i wy => ∃ j : Nat, j ≤ M + 3 ∧ i = .int .i64 (-2 + (j : Int)) ∧ NL w wy w1.heap.size w2.heap.size k N) (fun i _ => (M : Int).toNat + 3 - (intOf i + 2).toNat)
            case atStart => exact ⟨0, Nat.zero_le _, rfl, HN.out⟩
            case round =>
              obtain ⟨j, hj, rfl, hNj⟩ := hrel
              obtain ⟨LA', lc', hlc', -⟩ := hNj.list
              rw [HM.out] at hlc'
              have HNJ := hid hNj
              clear hNj
              by_cases hjl : j < M + 3
              · have hle : -2 + (j : Int) ≤ M := by omega
                go_wp2_with fail
                refine (stood_L HNJ.out (by omega) _).mono ?_
                rintro e w9 ⟨rfl, hN9⟩
                have HN9 := hid hN9
                clear hN9
                go_wp2_with fail
                go_roundw
                case rel => exact ⟨j + 1, by omega, by go_num, HN9.out⟩
                case measure => simp [intOf] <;> omega
              · have hle : ¬ -2 + (j : Int) ≤ M := by omega
                go_wp2_with fail
                refine (nknown_any _).mono ?_
                rintro e w9 ⟨rfl, hk9⟩
                have HK9 := hid hk9
                clear hk9
                go_wp2_with fail
                go_ret
                exact ⟨rfl, (HNJ.out.keepsW.trans HK9.out (by simp)).below (Nat.le_refl _) (by simp)⟩
end Go.Proofs.Ytkeffebcmajhmaa
