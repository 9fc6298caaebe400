/- The queue and the reference's queue, side by side. -/
import Derived.Test.YtnijemjfbghhmaaRefq4
namespace Go.Proofs.Ytnijemjfbghhmaa
open Go.RowKit
/-- both queues, after at most k steps. -/
def StB (w W : World) (q x k : Nat) (G H : List Nat) (bs es : List Int) (g : Int) (t : Nat) : Prop :=
  QRep W q G bs (pcs g t (es.drop t)) es.length ∧ RQ W x H bs es g t ∧ Sized (pcs g t (es.drop t)) ∧ lastOf g (es.drop t) = g + bs.length ∧ t ≤ es.length ∧ 0 ≤ g ∧ g + bs.length ≤ k * 2097152 ∧ es.length ≤ k ∧
    (∀ j ∈ G, w.heap.size ≤ j) ∧ (∀ j ∈ H, w.heap.size ≤ j) ∧ (∀ j ∈ G, j ∉ H) ∧ Keeps [] w W
def St (w W : World) (q x k : Nat) : Prop := ∃ G H bs es g t, StB w W q x k G H bs es g t
theorem StB.keeps {w W W' : World} {q x k : Nat} {G H : List Nat} {bs es : List Int} {g : Int} {t : Nat} (h : StB w W q x k G H bs es g t) (hk : Keeps [] W W') : StB w W' q x k G H bs es g t := by
  obtain ⟨h1, h2, h3, h4, h5, h6, h7, h8, h9, h10, h11, h12⟩ := h
  exact ⟨h1.keeps hk (by simp), h2.keeps hk (by simp), h3, h4, h5, h6, h7, h8, h9, h10, h11, h12.trans hk (by simp)⟩
theorem StB.more {w W : World} {q x k : Nat} {G H : List Nat} {bs es : List Int} {g : Int} {t : Nat} (h : StB w W q x k G H bs es g t) : StB w W q x (k + 1) G H bs es g t := by
  obtain ⟨h1, h2, h3, h4, h5, h6, h7, h8, h9, h10, h11, h12⟩ := h
  refine ⟨h1, h2, h3, h4, h5, h6, ?_, by omega, h9, h10, h11, h12⟩
  omega
theorem StB.keepsF {w W W' : World} {q x k : Nat} {G H K : List Nat} {bs es : List Int} {g : Int} {t : Nat} (h : StB w W q x k G H bs es g t) (hk : Keeps K W W') (hG : ∀ j ∈ G, j ∉ K) (hH : ∀ j ∈ H, j ∉ K) (hw : ∀ j ∈ K, w.heap.size ≤ j) : StB w W' q x k G H bs es g t := by
  obtain ⟨h1, h2, h3, h4, h5, h6, h7, h8, h9, h10, h11, h12⟩ := h
  exact ⟨h1.keeps hk hG, h2.keeps hk hH, h3, h4, h5, h6, h7, h8, h9, h10, h11, h12.trans hk (fun j hj => .inr (hw j hj))⟩
theorem pcs_map : ∀ (es : List Int) (a : Int) (t : Nat), (pcs a t es).map (·.1) = toldV t es.length
  | [], _, _ => rfl
  | e :: es, a, t => by
    have h := pcs_map es e (t + 1)
    have e1 : ((t + 1 : Nat) : Int) = (t : Int) + 1 := by omega
    rw [e1] at h
    simp only [pcs, List.map_cons, h, toldV, List.length_cons, List.range_succ_eq_map, List.map_map]
    congr 1
    · simp
      intro a _
      omega
theorem left_same (es : List Int) (g : Int) (t : Nat) : (pcs g t (es.drop t)).map (·.1) = toldV t (es.length - t) := by
  rw [pcs_map, List.length_drop]
/-- what is added. -/
theorem St.add {w W : World} {q x k : Nat} {G H : List Nat} {bs es fl : List Int} {g : Int} {t : Nat}
    (hq : QRep W q G (bs ++ fl) (pcs g t (es.drop t) ++ [((es.length : Int) + 1, (fl.length : Int))]) ((es.length : Int) + 1)) (hr : RQ W x H (bs ++ fl) (es ++ [g + ((bs ++ fl).length : Nat)]) g t)
    (hs : Sized (pcs g t (es.drop t))) (hl : lastOf g (es.drop t) = g + bs.length) (ht : t ≤ es.length) (hg : 0 ≤ g) (hb : g + bs.length ≤ k * 2097152) (he : es.length ≤ k) (hf : fl.length ≤ 2097152)
    (h9 : ∀ j ∈ G, w.heap.size ≤ j) (h10 : ∀ j ∈ H, w.heap.size ≤ j) (h11 : ∀ j ∈ G, j ∉ H) (h12 : Keeps [] w W) : St w W q x (k + 1) := by
  have e1 : (es ++ [g + (((bs ++ fl).length : Nat) : Int)]).drop t = es.drop t ++ [g + (((bs ++ fl).length : Nat) : Int)] := by rw [List.drop_append_of_le_length ht]
  have e2 : pcs g t ((es ++ [g + (((bs ++ fl).length : Nat) : Int)]).drop t) = pcs g t (es.drop t) ++ [((es.length : Int) + 1, (fl.length : Int))] := by
    rw [e1, pcs_snoc, hl, List.length_drop, List.length_append]
    have a1 : (t : Int) + ((es.length - t : Nat) : Int) + 1 = es.length + 1 := by omega
    have a2 : g + ((bs.length + fl.length : Nat) : Int) - (g + bs.length) = fl.length := by omega
    rw [a1, a2]
  refine ⟨G, H, bs ++ fl, es ++ [g + (((bs ++ fl).length : Nat) : Int)], g, t, ?_, hr, ?_, ?_, by simp; omega, hg, ?_, by simp; omega, h9, h10, h11, h12⟩
  · rw [e2]
    simpa using hq
  · rw [e2]
    intro p hp
    rcases List.mem_append.1 hp with hp | hp
    · exact hs p hp
    · simp at hp
      subst hp
      simp only
      omega
  · rw [e1, lastOf_snoc]
  · rw [List.length_append]
    omega
theorem lastOf_mem : ∀ (es : List Int) (a : Int), es ≠ [] → lastOf a es ∈ es
  | [], _, h => absurd rfl h
  | [e], _, _ => by simp [lastOf]
  | e :: e' :: es, a, _ => by
    have h := lastOf_mem (e' :: es) e (by simp)
    simp only [lastOf] at h ⊢
    exact List.mem_cons_of_mem _ h
theorem lastOf_ne : ∀ (es : List Int) (a b : Int), es ≠ [] → lastOf a es = lastOf b es
  | [], _, _, h => absurd rfl h
  | _ :: _, _, _, _ => rfl
theorem lastOf_drop : ∀ (es : List Int) (n : Nat) (a : Int), n < es.length → lastOf a (es.drop n) = lastOf a es
  | [], _, _, h => by simp at h
  | e :: es, 0, _, _ => rfl
  | e :: es, n + 1, a, h => by
    simp at h
    rw [List.drop_succ_cons, lastOf_drop es n a h]
    simp only [lastOf]
    exact lastOf_ne es a e (by intro h2; subst h2; simp at h)
/-- bytes have gone. -/
theorem St.done {w W : World} {q x k : Nat} {G H : List Nat} {bs es : List Int} {g : Int} {t c T : Nat}
    (hq : QRep W q G (bs.drop c) (pcs (g + c) ((t : Int) + T) ((es.drop t).drop T)) es.length) (hr : RQ W x H (bs.drop c) es (g + c) ((t + T : Nat) : Int))
    (hs : Sized (pcs (g + c) ((t : Int) + T) ((es.drop t).drop T))) (hl : lastOf g (es.drop t) = g + bs.length) (ht : t + T ≤ es.length) (hg : 0 ≤ g) (hb : g + bs.length ≤ k * 2097152) (he : es.length ≤ k) (hc : c ≤ bs.length)
    (hall : ∀ i e, i < T → es[t + i]? = some e → e ≤ g + c)
    (h9 : ∀ j ∈ G, w.heap.size ≤ j) (h10 : ∀ j ∈ H, w.heap.size ≤ j) (h11 : ∀ j ∈ G, j ∉ H) (h12 : Keeps [] w W) : St w W q x (k + 1) := by
  have e0 : ((t + T : Nat) : Int) = (t : Int) + T := by omega
  rw [List.drop_drop] at hq hs
  rw [← e0] at hq hs
  refine ⟨G, H, bs.drop c, es, g + c, t + T, hq, hr, hs, ?_, ht, by omega, by rw [List.length_drop]; omega, by omega, h9, h10, h11, h12⟩
  rw [List.length_drop]
  by_cases h : t + T < es.length
  · have h1 : lastOf (g + c) (es.drop (t + T)) = lastOf g (es.drop t) := by
      rw [lastOf_drop es (t + T) _ h, lastOf_drop es t _ (by omega)]
      exact lastOf_ne es _ _ (by intro h2; subst h2; simp at h)
    rw [h1, hl]
    omega
  · have h1 : es.drop (t + T) = [] := List.drop_eq_nil_of_le (by omega)
    rw [h1]
    simp only [lastOf]
    by_cases h2 : t < es.length
    · have h3 := lastOf_mem (es.drop t) g (by intro h4; have h5 := congrArg List.length h4; simp at h5; omega)
      obtain ⟨i, hi⟩ := List.getElem?_of_mem h3
      rw [List.getElem?_drop] at hi
      have hil := (List.getElem?_eq_some_iff.1 hi).1
      have h6 := hall i _ (by omega) hi
      omega
    · have h3 : es.drop t = [] := List.drop_eq_nil_of_le (by omega)
      rw [h3] at hl
      simp only [lastOf] at hl
      omega
/-- the two counts of what is told are one. -/
theorem told_one {es : List Int} {g : Int} {t c T T' : Nat} (hT : t + T ≤ es.length) (hT' : t + T' ≤ es.length) (h1 : ∀ i e, i < T → es[t + i]? = some e → e ≤ g + c) (h2 : ∀ e, es[t + T]? = some e → g + c < e)
    (h1' : ∀ i e, i < T' → es[t + i]? = some e → e ≤ g + c) (h2' : ∀ e, es[t + T']? = some e → g + c < e) : T = T' := by
  rcases Nat.lt_trichotomy T T' with h | h | h
  · have h3 := List.getElem?_eq_getElem (l := es) (i := t + T) (by omega)
    have h4 := h1' T _ h h3
    have h5 := h2 _ h3
    omega
  · exact h
  · have h3 := List.getElem?_eq_getElem (l := es) (i := t + T') (by omega)
    have h4 := h1 T' _ h h3
    have h5 := h2' _ h3
    omega
end Go.Proofs.Ytnijemjfbghhmaa
