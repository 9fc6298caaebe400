/- The slab: All by contract; a nil slab. -/
import Derived.Test.YtkeffebcmajhmaaSlab6
namespace Go.Proofs.Ytkeffebcmajhmaa
open Go.RowKit
set_option linter.unusedVariables false
def allFrom : Nat → List Slot → List (Int × Int)
  | _, [] => []
  | i, d :: L => (if d.2.1 = true then [((i : Int), d.1)] else []) ++ allFrom (i + 1) L
theorem allFrom_snoc : ∀ (L : List Slot) (i : Nat) (d : Slot), allFrom i (L ++ [d]) = allFrom i L ++ (if d.2.1 = true then [(((i + L.length : Nat) : Int), d.1)] else [])
  | [], i, d => by simp [allFrom]
  | e :: L, i, d => by
    simp only [List.cons_append, allFrom, allFrom_snoc L (i + 1) d, List.append_assoc, List.length_cons]
    have : i + 1 + L.length = i + (L.length + 1) := by omega
    rw [this]
theorem allFrom_le : ∀ (L : List Slot) (i : Nat), (allFrom i L).length ≤ L.length
  | [], i => by simp [allFrom]
  | e :: L, i => by
    have := allFrom_le L (i + 1)
    simp only [allFrom, List.length_append, List.length_cons]
    split <;> simp <;> omega
def handlesV (hs : List (Int × Int)) : List Value := hs.flatMap fun h => [.int .i64 h.1, .int .i64 h.2]
theorem handlesV_length (hs : List (Int × Int)) : (handlesV hs).length = hs.length * 2 := by
  induction hs with
  | nil => rfl
  | cons h hs ih => simp only [handlesV, List.flatMap_cons, List.length_append, List.length_cons, List.length_nil] at ih ⊢; omega
theorem handlesV_append (a b : List (Int × Int)) : handlesV (a ++ b) = handlesV a ++ handlesV b := by simp [handlesV]
theorem handlesV_get (hs : List (Int × Int)) (k : Nat) (h : Int × Int) (hh : hs[k]? = some h) : (handlesV hs)[k * 2]? = some (.int .i64 h.1) ∧ (handlesV hs)[k * 2 + 1]? = some (.int .i64 h.2) := by
  induction hs generalizing k with
  | nil => simp at hh
  | cons e L ih =>
    cases k with
    | zero => simp at hh; subst hh; simp [handlesV]
    | succ k =>
      have h' := ih k (by simpa using hh)
      have e1 : (k + 1) * 2 = k * 2 + 1 + 1 := by omega
      have e2 : k * 2 + 1 + 1 + 1 = (k * 2 + 1) + 1 + 1 := by omega
      rw [e1, e2]
      simp only [handlesV, List.flatMap_cons, List.cons_append, List.nil_append] at h' ⊢
      exact ⟨by simpa using h'.1, by simpa using h'.2⟩
theorem Row.hsIn {w : World} {F : List Nat} {v : Value} {hs : List (Int × Int)} (h : Row w 30 2 v hs.length (handlesV hs)) (hF : ∀ k, v.ownBlock = some k → k ∉ F) : HsIn w F v hs := by
  obtain ⟨A, c, rfl, h1, h2, h3, -⟩ := h.form
  refine ⟨A, c, rfl, h1, h2, fun hp => ?_⟩
  obtain ⟨g, off, cap, hv, -, -, hc, -⟩ := h.open_ hp
  injection hv with hA
  subst hA
  refine ⟨g, off, rfl, hF g rfl, fun j u hu => ?_⟩
  obtain ⟨g0, g1⟩ := handlesV_get hs j u hu
  exact ⟨hc _ _ g0, by rw [Nat.add_assoc]; exact hc _ _ g1⟩
theorem handle_info : (Try.prog.info? 30).map (fun i => (i.zero, i.size, i.bytes)) = some (some (.agg #[.int .i64 0, .int .i64 0]), 2, 16) := by kernel_rfl
def NewHs (w : World) (q : List (Int × Int)) (e : Ending) (w' : World) : Prop := ∃ v, e = .returned v ∧ Row w' 30 2 v q.length (handlesV q) ∧ (∀ k, v.ownBlock = some k → w.heap.size ≤ k)
set_option maxRecDepth 100000 in
set_option maxHeartbeats 1000000 in
theorem sall_any (s : Nat) (F : List Nat) (lim n : Int) (L : List Slot) (w : World) (h : SRep w s F lim L n) (hL : L.length ≤ 1099511627776) :
    Calls Try.prog 31 #[.pointer (some ⟨s, 0, none⟩)] w fun e w' => NewHs w (allFrom 0 L) e w' ∧ Keeps [] w w' := by
  obtain ⟨i1, hi1, hy0, hy1, hy2⟩ := info_parts handle_info
  have H := hid h
  obtain ⟨A, cap, hv, h1, h2, hc⟩ := h.opened
  have HC := hid hc
  clear h hc
  go_enter Try.func31, Try.ntmps31
  go_wp2_with fail
  go_loopw [3, 4, 5, 13] (fun l _ _ i wr => ∃ (k : Nat) (q : List (Int × Int)), k ≤ L.length ∧ i = .int .i64 k ∧ allFrom 0 (L.take k) = q ∧ q.length ≤ k ∧ Row wr 30 2 l q.length (handlesV q) ∧ (∀ j, l.ownBlock = some j → w.heap.size ≤ j) ∧ Keeps [] w wr) (fun _ _ _ i _ => L.length - (intOf i).toNat)
  case atStart => exact ⟨0, [], Nat.zero_le _, rfl, by simp [allFrom], Nat.le_refl _, Row.nil _ _ _, by simp [Value.ownBlock], Keeps.refl _ _⟩
  case round =>
    obtain ⟨k, q, hk, rfl, hq, hqk, hrow, hob, hkp⟩ := hrel
    have HROW := hid hrow
    have HOB := hid hob
    have HQ := hid hq
    obtain ⟨LA, lc, rfl, -⟩ := hrow.form
    clear hrow hob hq
    by_cases hlt : k < L.length
    · obtain ⟨d, hd⟩ : ∃ d, L[k]? = some d := ⟨L[k], List.getElem?_eq_getElem hlt⟩
      obtain ⟨b, off, rfl, hcc⟩ := HC.out (by omega)
      obtain ⟨g0, g1, g2⟩ := hcc k d hd
      have d0 := cell_keep hkp (by simp) g0
      have d1 := cell_keep hkp (by simp) g1
      have d2 := cell_keep hkp (by simp) g2
      have hstep : allFrom 0 (L.take (k + 1)) = q ++ (if d.2.1 = true then [(((k : Nat) : Int), d.1)] else []) := by
        rw [List.take_add_one, hd, Option.toList, allFrom_snoc, HQ.out, List.length_take, Nat.min_eq_left (by omega), Nat.zero_add]
      have HS := hid hstep
      have hki : (k : Int) < L.length := by omega
      have hq40 : q.length ≤ 1099511627776 := by omega
      obtain ⟨dg, du, dv⟩ := d
      simp only at d0 d1 d2
      clear hstep hcc g0 g1 g2 hd
      cases du with
      | false =>
        go_wp2_with fail
        go_roundw
        case rel => exact ⟨k + 1, q, by omega, by go_num, by rw [HS.out]; simp, by omega, HROW.out.alloc _, HOB.out, hkp.alloc _⟩
        case measure => simp [intOf] <;> omega
      | true =>
        go_wp2_with (at_builtin; refine wpList_append_row _ rfl (.tmp 20) (.tmp 25) _ rfl 30 i1 _ 2 16 Try.underlying28 hi1 hy0 hy1 hy2 rfl (by omega) (.slice LA q.length lc) q.length _ rfl ((HROW.out.alloc _).alloc _) (some ⟨wr.heap.size + 1, 0, none⟩) 1 1 [.int .i64 k, .int .i64 dg] rfl (reads_blk2 (Blk.newAt (by simp))) (by simp [Value.oneCell']) (by simp only [maxLen]; omega) (by omega) ?_; intro v2 w2 hv2 hk2 ho2; have HV2 := hid hv2; have HK2 := hid hk2; have HO2 := hid ho2; clear hv2 hk2 ho2)
        go_roundw
        case rel =>
          have hv := HV2.out
          rw [show handlesV q ++ [Value.int .i64 k, .int .i64 dg] = handlesV (q ++ [((k : Int), dg)]) by simp [handlesV], show q.length + 1 = (q ++ [((k : Int), dg)]).length by simp] at hv
          refine ⟨k + 1, q ++ [((k : Int), dg)], by omega, by go_num, by rw [HS.out]; simp, by simp; omega, hv, fun j hj => ?_, ((hkp.alloc _).alloc _).trans HK2.out (fun j hj => .inr (HOB.out j (by simpa using hj)))⟩
          rcases HO2.out j hj with h | h
          · exact HOB.out j h
          · have h5 := hkp.size
            simp at h
            omega
        case measure => simp [intOf] <;> omega
    · have hkl : k = L.length := by omega
      subst hkl
      have hq2 := HQ.out
      rw [List.take_length] at hq2
      subst hq2
      go_wp2
      go_ret
      exact ⟨⟨_, rfl, HROW.out, HOB.out⟩, hkp⟩
theorem sget_nil (i g : Int) (w : World) : Calls Try.prog 23 #[.pointer none, .agg #[.int .i64 i, .int .i64 g]] w fun e w' => e = .returned (.tuple #[.int .i64 0, .int .i64 10]) ∧ Keeps [] w w' := by
  go_enter Try.func23, Try.ntmps23
  go_wp2_with fail
  refine (at_nil i g _).mono ?_
  rintro e w1 ⟨rfl, hk⟩
  go_wp2
  go_ret2
  exact ⟨rfl, ((Keeps.refl [] w).alloc _).trans hk (by simp)⟩
theorem sset_nil (i g v : Int) (w : World) : Calls Try.prog 24 #[.pointer none, .agg #[.int .i64 i, .int .i64 g], .int .i64 v] w fun e w' => e = .returned (.int .i64 1) ∧ Keeps [] w w' := by
  go_enter Try.func24, Try.ntmps24
  go_wp2
  go_ret
  exact ⟨rfl, (Keeps.refl [] w).alloc _⟩
theorem slen_nil (w : World) : Calls Try.prog 22 #[.pointer none] w fun e w' => e = .returned (.int .i64 0) ∧ Keeps [] w w' := by
  go_enter Try.func22, Try.ntmps22
  go_wp2
  go_ret
  exact ⟨rfl, Keeps.refl _ _⟩
theorem sall_nil (w : World) : Calls Try.prog 31 #[.pointer none] w fun e w' => e = .returned (.slice none 0 0) ∧ Keeps [] w w' := by
  go_enter Try.func31, Try.ntmps31
  go_wp2
  go_ret
  exact ⟨rfl, Keeps.refl _ _⟩
/-- Take of one Handle by a nil slab. -/
theorem stake_nil (pv : Value) (h : Int × Int) (w : World) (hp : HsIn w [] pv [h]) : Calls Try.prog 21 #[.pointer none, pv] w fun e w' => e = .returned (.int .i64 0) ∧ Keeps [] w w' := by
  obtain ⟨A, c, rfl, hp1, hp2⟩ := hp.shape
  obtain ⟨pb, po, rfl, -, hpc⟩ := hp.at_ (by simp)
  obtain ⟨d0, d1⟩ := hpc 0 h rfl
  simp only [Nat.zero_mul, Nat.add_zero] at d0 d1
  have HP := hid hp
  obtain ⟨i, g⟩ := h
  clear hp hpc
  go_enter Try.func21, Try.ntmps21
  go_wp2_with fail
  go_loopw [5, 7, 8, 11] (fun m _ _ i wr => ∃ k : Nat, k ≤ 1 ∧ i = .int .i64 k ∧ m = .int .i64 0 ∧ Keeps [] w wr) (fun _ _ _ i _ => 1 - (intOf i).toNat)
  case atStart => exact ⟨0, Nat.zero_le _, rfl, rfl, Keeps.refl _ _⟩
  case round =>
    obtain ⟨k, hk, rfl, rfl, hkp⟩ := hrel
    by_cases hlt : k < 1
    · obtain rfl : k = 0 := by omega
      have e0 := cell_keep hkp (by simp) d0
      have e1 := cell_keep hkp (by simp) d1
      go_wp2_with fail
      refine (at_nil _ _ _).mono ?_
      rintro e w1 ⟨rfl, hk1⟩
      go_wp2_with fail
      go_roundw
      case rel => exact ⟨1, by omega, by go_num, rfl, (hkp.alloc _).trans hk1 (by simp)⟩
      case measure => simp [intOf] <;> omega
    · obtain rfl : k = 1 := by omega
      go_wp2
      go_ret
      exact ⟨rfl, hkp⟩
end Go.Proofs.Ytkeffebcmajhmaa
