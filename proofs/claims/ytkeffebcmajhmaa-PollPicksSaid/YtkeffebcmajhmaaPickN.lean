/- PollPicks in plain words: who is connected, taken, sent to and watched; all of them are told once, whatever the picks. -/
import Derived.Test.YtkeffebcmajhmaaPoll15
namespace Go.Proofs.Ytkeffebcmajhmaa
open Go.RowKit
set_option linter.unusedVariables false
def cPk : Cn := ⟨false, true, false, 1, false, false, true, [1], 0, 1, 0, [], []⟩
def pkN (k : Nat) : NS := ⟨20, List.replicate k cPk, [], false, 0, k, k⟩
def pkM (k : Nat) : NS := ⟨20, List.replicate k cPk ++ [newCn 1], [k], false, 0, k + 1, k⟩
def pkA (k : Nat) : NS := ⟨20, List.replicate k cPk ++ [⟨false, true, false, 1, false, false, true, [], 0, 0, 0, [], []⟩], [], false, 0, k + 1, k + 1⟩
theorem pkN_zero : pkN 0 = newN 20 := rfl
theorem pkN_connect (k : Nat) (h : k < 20) : connectN (pkN k) 1 = (pkM k, (k : Int), 0) := by
  unfold connectN
  rw [if_neg (by omega), if_neg (by simp [pkN]), if_neg (by simp [pkN]; omega)]
  simp [pkN, pkM]
theorem acceptN_ok {N : NS} {q : Nat} {rest : List Nat} {d : Cn} (h1 : N.stopped = false) (h2 : N.queue = q :: rest) (h3 : N.fails = 0) (h4 : N.cs[q]? = some d) :
    acceptN N = ({ N with queue := rest, cs := N.cs.set q { d with waits := false, opn := true, taken := true }, nopen := N.nopen + 1 }, (q : Int), d.peer, 0) := by
  unfold acceptN
  rw [if_neg (by simp [h1]), h2]
  simp only
  rw [if_neg (by omega), h4]
theorem pkN_accept (k : Nat) : acceptN (pkM k) = (pkA k, (k : Int), 1, 0) := by
  have hc : (pkM k).cs[k]? = some (newCn 1) := by
    simp only [pkM]
    rw [List.getElem?_append_right (by simp)]
    simp
  rw [acceptN_ok (N := pkM k) rfl rfl rfl hc]
  simp only [pkA, pkM, newCn, Prod.mk.injEq, and_true]
  congr 1
  rw [List.set_append_right _ _ (by simp)]
  simp
theorem flatMap_one {α β : Type} (f : α → List β) (g : α → β) : ∀ (l : List α), (∀ x ∈ l, f x = [g x]) → l.flatMap f = l.map g
  | [], _ => rfl
  | a :: l, h => by
    rw [List.flatMap_cons, List.map_cons, h a (by simp), flatMap_one f g l (fun x hx => h x (by simp [hx]))]
    rfl
theorem perm_erase {α : Type} {l : List α} {i : Nat} (h : i < l.length) : (l[i] :: l.eraseIdx i).Perm l := by
  rw [List.eraseIdx_eq_take_drop_succ]
  refine List.perm_middle.symm.trans ?_
  rw [List.getElem_cons_drop, List.take_append_drop]
theorem pkN_send (k : Nat) : sendN (pkA k) k [[1]] = (pkN (k + 1), 1, 0) := by
  unfold sendN
  have hc : (pkA k).cs[k]? = some ⟨false, true, false, 1, false, false, true, [], 0, 0, 0, [], []⟩ := by
    simp only [pkA]
    rw [List.getElem?_append_right (by simp)]
    simp
  rw [onConn_some hc]
  simp only [sendD, theirsD, NS.upd, pkA, pkN, List.replicate_succ']
  simp [cPk]
theorem pkN_state (k i : Nat) (h : i < k) : (stateN (pkN k) i).2.1 = true := by
  unfold stateN
  have hc : (pkN k).cs[i]? = some cPk := by simp [pkN, h]
  rw [cnAt_some hc]
  rfl
def pkL (k : Nat) : List Slot := (List.range k).map fun i : Nat => (1, true, (i : Int))
def pkDs (k : Nat) : WL := (List.range k).map fun i : Nat => (((i : Int), 1), ⟨(i : Int), true, true, false, 0, 0⟩)
def pkEs (k : Nat) : List Ev := (List.range k).map fun i : Nat => (((i : Int), 1), (i : Int), true, false)
theorem pkL_len (k : Nat) : (pkL k).length = k := by simp [pkL]
theorem pkDs_len (k : Nat) : (pkDs k).length = k := by simp [pkDs]
theorem pkEs_len (k : Nat) : (pkEs k).length = k := by simp [pkEs]
theorem pkL_free (k : Nat) : freeAt (pkL k) = k := by
  unfold freeAt
  rw [List.findIdx_eq_length.2]
  · exact pkL_len k
  · intro d hd
    obtain ⟨i, -, rfl⟩ := List.mem_map.1 hd
    rfl
theorem pkL_none (k : Nat) : (pkL k)[k]? = none := by simp [pkL]
theorem pkL_put (k : Nat) : putL (pkL k) k = pkL (k + 1) ∧ putG (pkL k) = 1 := by
  unfold putL putG
  rw [pkL_free, pkL_none]
  simp [pkL, List.range_succ]
theorem pkL_gen (k : Nat) : ∀ d ∈ pkL k, 0 ≤ d.1 ∧ d.1 ≤ 1099511627776 := by
  intro d hd
  obtain ⟨i, -, rfl⟩ := List.mem_map.1 hd
  simp
theorem pkDs_step (k : Nat) : pkDs k ++ [((((k : Nat) : Int), 1), ⟨(k : Int), true, true, false, 0, 0⟩)] = pkDs (k + 1) := by simp [pkDs, List.range_succ]
theorem pkDs_new (k : Nat) : ∀ x ∈ pkDs k, x.2.id ≠ (k : Int) := by
  intro x hx
  obtain ⟨i, hi, rfl⟩ := List.mem_map.1 hx
  simp at hi ⊢
  omega
theorem pkAll (k : Nat) : allFrom 0 (pkL k) = (List.range k).map fun i : Nat => ((i : Int), 1) := by
  have h : ∀ (m i : Nat), allFrom i ((List.range m).map fun j : Nat => ((1, true, ((i + j : Nat) : Int)) : Slot)) = (List.range m).map fun j : Nat => (((i + j : Nat) : Int), 1) := by
    intro m
    induction m with
    | zero => intro i; rfl
    | succ m ih =>
      intro i
      rw [List.range_succ_eq_map]
      simp only [List.map_cons, List.map_map, allFrom, Nat.add_zero]
      have := ih (i + 1)
      simp only [Function.comp_def, Nat.succ_eq_add_one, if_true, List.singleton_append] at this ⊢
      rw [show (fun j : Nat => ((1, true, ((i + (j + 1) : Nat) : Int)) : Slot)) = fun j : Nat => (1, true, ((i + 1 + j : Nat) : Int)) from by funext j; simp only [Prod.mk.injEq, true_and]; omega, this]
      congr 1
      apply List.map_congr_left
      intro j _
      simp only [Prod.mk.injEq, and_true]
      omega
  have h0 := h k 0
  simpa [pkL] using h0
theorem pkFind (k i : Nat) (h : i < k) : findW (pkDs k) ((i : Int), 1) = some ⟨(i : Int), true, true, false, 0, 0⟩ := by
  unfold findW
  have : (pkDs k).find? (fun x => x.1 == ((i : Int), 1)) = some (((i : Int), 1), ⟨(i : Int), true, true, false, 0, 0⟩) := by
    unfold pkDs
    rw [List.find?_map]
    have h2 : (List.range k).find? ((fun x : (Int × Int) × Wd => x.1 == ((i : Int), 1)) ∘ fun i : Nat => (((i : Int), 1), ⟨(i : Int), true, true, false, 0, 0⟩)) = some i := by
      rw [List.find?_eq_some_iff_getElem]
      refine ⟨by simp, i, by simpa using h, by simp, fun j hj => ?_⟩
      simp
      omega
    rw [h2]
    rfl
  rw [this]
  rfl
theorem pkEvs (k : Nat) : evsP (pkN k) (pkL k) (pkDs k) = pkEs k := by
  unfold evsP
  rw [pkAll, pkEs, List.flatMap_map]
  refine flatMap_one _ _ _ (fun i hi => ?_)
  simp at hi
  unfold evAt
  rw [pkFind k i hi]
  have hc : cnAt (pkN k) (i : Int) = some (i, cPk) := cnAt_some (by simp [pkN, hi])
  have hr : readyN (pkN k) (i : Int) = (true, false) := by
    unfold readyN
    rw [if_neg (by omega), hc]
    rfl
  simp only [evOf, toldD, hr]
  simp
/-- picks turn the order alone. -/
theorem pickGo_perm : ∀ (n : Nat) (p : List Int) (r : List Ev), r.length = n → (pickGo n p r).Perm r
  | 0, p, r, h => by
    obtain rfl := List.eq_nil_of_length_eq_zero h
    exact List.Perm.refl _
  | n + 1, p, r, h => by
    have hlt := pickI_lt p (n := r.length) (by omega)
    unfold pickGo
    rw [List.getElem?_eq_getElem hlt]
    simp only
    have ih := pickGo_perm n (p.drop 1) (r.eraseIdx (pickI p r.length)) (by rw [List.length_eraseIdx_of_lt hlt]; omega)
    exact (ih.cons _).trans (perm_erase hlt)
theorem pickE_perm (p : List Int) (r : List Ev) : (pickE p r).Perm r := pickGo_perm _ p r rfl
/-- the Events: all of them, each once. -/
structure PkOk (n : Nat) (l : List Ev) : Prop where
  len : l.length = n
  ev : ∀ e ∈ l, ∃ i : Nat, i < n ∧ e = (((i : Int), 1), (i : Int), true, false)
  nd : (l.map fun e : Ev => e.2.1).Nodup
theorem pkOk (n : Nat) (p : List Int) : PkOk n (pickE p (evsP (pkN n) (pkL n) (pkDs n))) := by
  rw [pkEvs]
  have hp := pickE_perm p (pkEs n)
  refine ⟨by rw [hp.length_eq, pkEs_len], fun e he => ?_, ?_⟩
  · obtain ⟨i, hi, rfl⟩ := List.mem_map.1 (hp.mem_iff.1 he)
    exact ⟨i, by simpa using hi, rfl⟩
  · refine (hp.map _).nodup_iff.2 ?_
    unfold pkEs
    rw [List.map_map]
    unfold List.Nodup
    rw [List.pairwise_map]
    refine List.Pairwise.imp (fun {a b} (h : a ≠ b) => ?_) (List.nodup_range (n := n))
    simp
    omega
/-- which have been seen. -/
def seenF (l : List Ev) (j : Nat) (q : Nat) : Value := .bool ((l.take j).any fun e => e.2.1 == (q : Int))
theorem seenF_get {n : Nat} {l : List Ev} (h : PkOk n l) {j i : Nat} (hj : l[j]? = some (((i : Int), 1), (i : Int), true, false)) : seenF l j i = .bool false := by
  unfold seenF
  congr 1
  rw [Bool.eq_false_iff]
  intro hc
  obtain ⟨e, he, hi⟩ := List.any_eq_true.1 hc
  simp at hi
  obtain ⟨q, hq⟩ := List.getElem?_of_mem he
  have hql : q < (l.take j).length := (List.getElem?_eq_some_iff.1 hq).1
  rw [List.length_take] at hql
  rw [List.getElem?_take_of_lt (by omega)] at hq
  have h1 : (l.map fun e : Ev => e.2.1)[q]? = (l.map fun e : Ev => e.2.1)[j]? := by
    rw [List.getElem?_map, List.getElem?_map, hq, hj]
    simp [hi]
  have := (List.getElem?_inj (by simp; omega) h.nd).1 h1
  omega
theorem seenF_step {l : List Ev} {j i : Nat} (hj : l[j]? = some (((i : Int), 1), (i : Int), true, false)) (q : Nat) : (if q = i then Value.bool true else seenF l j q) = seenF l (j + 1) q := by
  unfold seenF
  rw [List.take_add_one, hj, List.any_append]
  by_cases hq : q = i
  · subst hq
    simp
  · rw [if_neg hq]
    have : ((i : Int) == (q : Int)) = false := by simp; omega
    simp [this]
end Go.Proofs.Ytkeffebcmajhmaa
