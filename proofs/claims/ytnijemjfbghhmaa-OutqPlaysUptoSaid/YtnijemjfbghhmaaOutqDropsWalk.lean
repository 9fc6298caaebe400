/- The walk of OutqDrops. -/
import Derived.Test.YtnijemjfbghhmaaOutq6
import Derived.Laws.BitsAllLaws
import Derived.Laws.BitsLemmas
namespace Go.Proofs.Ytnijemjfbghhmaa
open Go.RowKit
theorem and_mask (x : Int) (m : Nat) (h : m < 9223372036854775808) : ∃ k : Nat, bits .and .i64 x (m : Int) = k ∧ k ≤ m := by
  have e : (BitVec.ofInt 64 (m : Int)).toNat = m := by
    rw [BitVec.ofInt_natCast, BitVec.toNat_ofNat]; exact Nat.mod_eq_of_lt (by omega)
  refine ⟨(BitVec.ofInt 64 x).toNat &&& m, ?_, Nat.and_le_right⟩
  have hx : (BitVec.ofInt 64 x).toNat &&& m ≤ m := Nat.and_le_right
  show IntKind.i64.wrap ((BitVec.ofInt 64 x &&& BitVec.ofInt 64 (m : Int)).toNat : Int) = _
  rw [BitVec.toNat_and, e, IntKind.wrap_i64]
  omega
/-- Add of one row that is there. -/
theorem add_one (a : Nat) (F : List Nat) (bs : List Int) (ps : List (Int × Int)) (last : Int) (A : Option Addr) (c : Nat) (zs : List Int) (w : World) (h : QRep w a F bs ps last)
    (hz : CellsIn w F (.slice A zs.length c) (bytesV zs)) (hl0 : 0 ≤ last) (hl1 : last ≤ 1099511627776) (hbs : bs.length + zs.length ≤ 1099511627776) (hps : ps.length ≤ 1099511627776) :
    Calls Try.prog 9 #[.pointer (some ⟨a, 0, none⟩), .slice (some ⟨w.heap.size, 0, none⟩) 1 1] (w.alloc (.cells #[.slice A zs.length c] 24)) fun e w' => e = .returned (.int .i64 (last + 1)) ∧
      (∃ F', QRep w' a F' (bs ++ zs) (ps ++ [(last + 1, (zs.length : Int))]) (last + 1) ∧ Later F w F') ∧ Keeps F w w' := by
  have f1 := h.flt
  have hadd := add_any a F bs ps last (.slice (some ⟨w.heap.size, 0, none⟩) 1 1) [(.slice A zs.length c, zs)] (w.alloc (.cells #[.slice A zs.length c] 24))
    (h.keeps ((Keeps.refl [] w).alloc _) (by simp)) (by simpa using CellsIn.newM w F [.slice A zs.length c] 24 (0, 0) f1 (by simp))
    (fun r hr => by
      simp only [List.mem_cons, List.not_mem_nil, or_false] at hr
      subst hr
      exact hz.alloc _) hl0 hl1 (by simpa [flat] using hbs) hps
  refine hadd.mono ?_
  rintro e w' ⟨rfl, ⟨F', hq, hl⟩, hk⟩
  have e1 : flat [(Value.slice A zs.length c, zs)] = zs := by simp [flat]
  rw [e1] at hq
  refine ⟨rfl, ⟨F', hq, fun k hk => ?_⟩, ((Keeps.refl F w).alloc _).trans hk (fun x hx => .inl hx)⟩
  rcases hl k hk with h1 | h1
  · exact .inl h1
  · simp at h1
    exact .inr (by omega)
set_option maxHeartbeats 1000000 in
theorem outqDrops_out (w : World) (n : Int) (A B : Option Addr) (la lb ca cb : Nat) (hg : 6000 < la ∨ (la ≤ 6000 ∧ 6000 < lb)) :
    Calls Try.prog 7 #[.slice A la ca, .int .i64 n, .slice B lb cb] w fun e w' => e = .returned (.bool true) ∧ Below w.heap.size w w' := by
  rcases hg with h | ⟨h0, h⟩
  all_goals
    go_enter Try.func7, Try.ntmps7
    go_wp2
    go_ret
    exact ⟨rfl, Below.refl _ _⟩
set_option maxRecDepth 100000 in
set_option maxHeartbeats 2000000 in
theorem outqDrops_in (w : World) (n : Int) (A B : Option Addr) (ca cb : Nat) (a b : List Int) (ha : CellsIn w [] (.slice A a.length ca) (bytesV a)) (hb : CellsIn w [] (.slice B b.length cb) (bytesV b))
    (hla : a.length ≤ 6000) (hlb : b.length ≤ 6000) :
    Calls Try.prog 7 #[.slice A a.length ca, .int .i64 n, .slice B b.length cb] w fun e w' => e = .returned (.bool true) ∧ Below w.heap.size w w' := by
  obtain ⟨K, hK, hK2⟩ := and_mask n 8191 (by omega)
  simp only [Int.cast_ofNat_Int] at hK
  obtain ⟨k, hk⟩ : ∃ k, min a.length K = k := ⟨_, rfl⟩
  have hmax : (if (0 : Int) < K then (K : Int) else 0) = K := by split <;> omega
  have hmax2 : (if 0 < K then (K : Int) else 0) = K := by split <;> omega
  have hmin : (if (K : Int) < a.length then (K : Int) else a.length) = k := by split <;> omega
  have hmin2 : (if K < a.length then (K : Int) else a.length) = k := by split <;> omega
  have hka : k ≤ a.length := by omega
  clear hk
  have c3 : ¬ (6000 : Int) < a.length := by omega
  have c4 : ¬ (6000 : Int) < b.length := by omega
  have HA := hid ha
  have HB := hid hb
  clear ha hb
  obtain ⟨T, P, hT⟩ : ∃ T P, settle [(1, (a.length : Int))] k = (T, P) := ⟨_, _, rfl⟩
  have hTl : (((T.length : Nat) : Int) == 1) = ((k : Int) == a.length) := by
    simp only [settle] at hT
    by_cases h : (a.length : Int) ≤ k
    · rw [if_pos h] at hT
      injection hT with h1 _
      subst h1
      have : (k : Int) = a.length := by omega
      simp [this]
    · rw [if_neg h] at hT
      injection hT with h1 _
      subst h1
      simp
      omega
  obtain ⟨x, hx⟩ : ∃ x, ((k : Int) == a.length) = x := ⟨_, rfl⟩
  rw [hx] at hTl
  have hPl : P.length ≤ 1 := by
    simp only [settle] at hT
    by_cases h : (a.length : Int) ≤ k
    · rw [if_pos h] at hT
      injection hT with _ h2
      subst h2
      simp
    · rw [if_neg h] at hT
      injection hT with _ h2
      subst h2
      simp
  have hw1 : IntKind.i64.wrap ((a.length : Int) - k) = a.length - k := IntWalk.i64_in _ (by omega)
  have HT := hid hT
  clear hT
  go_enter Try.func7, Try.ntmps7
  go_wp2_with fail
  refine (newq _).mono ?_
  rintro e w1 ⟨rfl, hq, hk⟩
  obtain ⟨q, hqe⟩ : ∃ q, w.heap.size = q := ⟨_, rfl⟩
  rw [hqe] at hq
  rw [hqe]
  have hF : ∀ k ∈ [q], w.heap.size ≤ k := by simp; omega
  clear hqe
  generalize hFe : [q] = F at hq hF
  clear hFe
  have hsz1 := hk.size
  go_wp2_with fail
  refine (add_one q F [] [] 0 A ca a _ hq ((CellsIn.old HA.out hF).keeps hk (by simp)) (by omega) (by omega) (by simp; omega) (by simp)).mono ?_
  rintro e w2 ⟨rfl, ⟨F2, hq2, hl2⟩, hk2⟩
  have hk2' : Keeps [] w w2 := hk.trans hk2 (fun x hx => .inr (hF x hx))
  have hF2 := hl2.from hF hsz1
  simp only [List.nil_append, Int.zero_add] at hq2
  clear hq hk hk2 hl2 hF
  have hsz2 := hk2'.size
  go_wp2_with fail
  have hd := done_any q F2 a [(1, (a.length : Int))] 1 k _ hq2 (by omega) (by simp) (by intro p hp; simp at hp; subst hp; simp only; omega)
  rw [clip_nat k a.length hka, HT.out] at hd
  refine hd.mono ?_
  clear hd
  rintro e w3 ⟨⟨v3, rfl, hv3, -⟩, ⟨F3, hq3, hl3, -⟩, hk3⟩
  obtain ⟨A3, c3', rfl, -⟩ := hv3.form
  have hk3' : Keeps [] w w3 := hk2'.trans hk3 (fun x hx => .inr (hF2 x hx))
  have hF3 := hl3.from hF2 hsz2
  simp only at hq3
  clear hq2 hk2' hk3 hl3 hF2 hv3
  have hsz3 := hk3'.size
  have hdl : (a.drop k).length = a.length - k := List.length_drop
  have hdl2 : (((a.drop k).length : Nat) : Int) = (a.length : Int) - k := by omega
  go_wp2_with fail
  refine (drop_any q F3 (a.drop k) P 1 _ hq3).mono ?_
  rintro e w4 ⟨rfl, hq4, hk4⟩
  rw [hdl2]
  have hk4' : Keeps [] w w4 := hk3'.trans hk4 (fun x hx => .inr (hF3 x hx))
  clear hq3 hk3' hk4 hdl hdl2
  have hsz4 := hk4'.size
  go_wp2_with fail
  refine (done_any q F3 [] [] 1 9 _ hq4 (by simp) (by simp) (by simp [Sized])).mono ?_
  rintro e w5 ⟨⟨v5, rfl, hv5, -⟩, ⟨F5, hq5, hl5, -⟩, hk5⟩
  obtain ⟨A5, c5', rfl, -⟩ := hv5.form
  have hk5' : Keeps [] w w5 := hk4'.trans hk5 (fun x hx => .inr (hF3 x hx))
  have hF5 := hl5.from hF3 hsz4
  have hq5' : QRep w5 q F5 [] [] 1 := hq5
  have hs5 : (settle [] (clip 9 ([] : List Int).length)).1.length = 0 := rfl
  rw [hs5]
  clear hq4 hk4' hk5 hl5 hF3 hv5 hq5 hs5
  have hsz5 := hk5'.size
  go_wp2_with fail
  refine (add_one q F5 [] [] 1 B cb b _ hq5' ((CellsIn.old HB.out hF5).keeps hk5' (by simp)) (by omega) (by omega) (by simp; omega) (by simp)).mono ?_
  rintro e w6 ⟨rfl, ⟨F6, hq6, hl6⟩, hk6⟩
  have hk6' : Keeps [] w w6 := hk5'.trans hk6 (fun x hx => .inr (hF5 x hx))
  have hF6 := hl6.from hF5 hsz5
  have hq6' : QRep w6 q F6 b [(2, (b.length : Int))] 2 := hq6
  clear hq5' hk5' hk6 hl6 hF5 hq6
  have hsz6 := hk6'.size
  go_wp2_with fail
  have hn := next_any q F6 b [(2, (b.length : Int))] 2 b.length _ hq6' (by omega)
  rw [clip_self, List.take_length] at hn
  refine hn.mono ?_
  clear hn
  rintro e w7 ⟨v7, rfl, hv7, -, hk7⟩
  have hq7 := hq6'.keeps hk7 (by simp)
  have hk7' : Keeps [] w w7 := hk6'.trans hk7 (by simp)
  go_wp2_with fail
  refine (same_any _ _ b b _ (hv7.cellsIn (by simp)) (HB.out.keeps hk7' (by simp))).mono ?_
  rintro e w8 ⟨rfl, hk8⟩
  rw [sameB_self]
  have hq8 := hq7.keeps hk8 (by simp)
  have hk8' : Keeps [] w w8 := hk7'.trans hk8 (by simp)
  clear hq6' hq7 hk6' hk7 hk7' hk8 hv7
  go_wp2_with fail
  have hd := done_any q F6 b [(2, (b.length : Int))] 2 b.length _ hq8 (by omega) (by simp) (by intro p hp; simp at hp; subst hp; simp only; omega)
  rw [clip_self] at hd
  have hst : settle [(2, (b.length : Int))] b.length = ([2], []) := by simp [settle]
  rw [hst] at hd
  refine hd.mono ?_
  clear hd hst
  rintro e w9 ⟨⟨v9, rfl, hv9, -⟩, -, hk9⟩
  have hk9' : Keeps [] w w9 := hk8'.trans hk9 (fun x hx => .inr (hF6 x hx))
  go_wp2_with fail
  refine (ints_any _ _ [2] [2] _ ?_ ?_).mono ?_
  · exact (hv9.cellsIn (F := []) (by simp)).alloc _
  · have h := CellsIn.newM w9 [] (intsV [2]) 3 (0, 0) (by simp) (by simp [intsV])
    simpa [intsV] using h
  rintro e w10 ⟨rfl, hk10⟩
  rw [sameB_self]
  go_wp2_with (go_at_call 15; refine (known_any _).mono ?_; rintro e w11 ⟨rfl, hk11⟩)
  go_ret
  exact ⟨rfl, (((hk9'.alloc _).trans hk10 (by simp)).trans hk11 (by simp)).below (Nat.le_refl _) (by simp)⟩
theorem outqDrops_walk (w : World) (av : Value) (a : List Int) (ha : CellsIn w [] av (a.map (.int .u8))) (_ : ∀ n ∈ a, (Lit.int .u8 n).wf = true) (n : Int) (_ : (Lit.int .i64 n).wf = true)
    (bv : Value) (b : List Int) (hb : CellsIn w [] bv (b.map (.int .u8))) (_ : ∀ n ∈ b, (Lit.int .u8 n).wf = true) :
    Calls Try.prog 7 #[av, .int .i64 n, bv] w fun e w' => e = .returned (.bool true) ∧ Below w.heap.size w w' := by
  obtain ⟨A, ca, rfl, -, -⟩ := ha.shape
  obtain ⟨B, cb, rfl, -, -⟩ := hb.shape
  simp only [List.length_map] at ha hb ⊢
  by_cases hg : a.length ≤ 6000 ∧ b.length ≤ 6000
  · exact outqDrops_in w n A B ca cb a b ha hb hg.1 hg.2
  · exact outqDrops_out w n A B _ _ ca cb (by omega)
end Go.Proofs.Ytnijemjfbghhmaa
