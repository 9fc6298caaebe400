/- The slab and the reference's slab, side by side. -/
import Derived.Test.YtkeffebcmajhmaaPq18
namespace Go.Proofs.Ytkeffebcmajhmaa
open Go.RowKit
set_option linter.unusedVariables false
theorem drew_cell {w : World} {p : Addr} {v : Value} (h : w.cell? p = some v) : w.drew.cell? p = some v := h
theorem drewN_cell {w : World} {p : Addr} {v : Value} (h : w.cell? p = some v) (n : Nat) : (w.drewN n).cell? p = some v := h
def SPB (w W : World) (s x k : Nat) (F G : List Nat) (lim : Int) (L : List Slot) (n : Int) (gv : Value) (hs : List (Int × Int)) : Prop :=
  SRep W s F lim L n ∧ RS W x G lim L n ∧ (∀ j ∈ F, w.heap.size ≤ j) ∧ (∀ j ∈ G, w.heap.size ≤ j) ∧ (∀ j ∈ F, j ∉ G) ∧ (∀ d ∈ L, 0 ≤ d.1 ∧ d.1 ≤ k) ∧ L.length ≤ k ∧ -(3 * (k : Int)) ≤ n ∧ n ≤ lim ∧
    Row W 30 2 gv hs.length (handlesV hs) ∧ (∀ j, gv.ownBlock = some j → w.heap.size ≤ j ∧ j ∉ F ∧ j ∉ G) ∧ 1 ≤ hs.length ∧ hs.length ≤ k + 1 ∧ Keeps [] w W
section
variable {w W W1 W2 W3 W4 : World} {s x k : Nat} {F G F' G' : List Nat} {lim n n' : Int} {L L' : List Slot} {gv gv' : Value} {hs : List (Int × Int)}
theorem SPB.keeps (h : SPB w W s x k F G lim L n gv hs) (hk : Keeps [] W W1) : SPB w W1 s x k F G lim L n gv hs := by
  obtain ⟨h1, h2, h3, h4, h5, h6, h7, h8, h9, h10, h11, h12, h13, h14⟩ := h
  exact ⟨h1.keeps hk (by simp), h2.keeps hk (by simp), h3, h4, h5, h6, h7, h8, h9, h10.keeps hk (by simp), h11, h12, h13, h14.trans hk (by simp)⟩
theorem SPB.keepsF {K : List Nat} (h : SPB w W s x k F G lim L n gv hs) (hk : Keeps K W W1) (hF : ∀ j ∈ F, j ∉ K) (hG : ∀ j ∈ G, j ∉ K) (ho : ∀ j, gv.ownBlock = some j → j ∉ K) (hw : ∀ j ∈ K, w.heap.size ≤ j) : SPB w W1 s x k F G lim L n gv hs := by
  obtain ⟨h1, h2, h3, h4, h5, h6, h7, h8, h9, h10, h11, h12, h13, h14⟩ := h
  exact ⟨h1.keeps hk hF, h2.keeps hk hG, h3, h4, h5, h6, h7, h8, h9, h10.keeps hk ho, h11, h12, h13, h14.trans hk (fun j hj => .inr (hw j hj))⟩
theorem SPB.more (h : SPB w W s x k F G lim L n gv hs) : SPB w W s x (k + 1) F G lim L n gv hs := by
  obtain ⟨h1, h2, h3, h4, h5, h6, h7, h8, h9, h10, h11, h12, h13, h14⟩ := h
  exact ⟨h1, h2, h3, h4, h5, fun d hd => ⟨(h6 d hd).1, by have := (h6 d hd).2; omega⟩, by omega, by omega, h9, h10, h11, h12, by omega, h14⟩
theorem gens_set {B : Int} {k : Nat} {d : Slot} (hg : ∀ d ∈ L, 0 ≤ d.1 ∧ d.1 ≤ B) (hd : 0 ≤ d.1 ∧ d.1 ≤ B) : ∀ e ∈ L.set k d, 0 ≤ e.1 ∧ e.1 ≤ B := by
  intro e he
  rcases List.mem_or_eq_of_mem_set he with h | h
  · exact hg e h
  · rw [h]
    exact hd
theorem gens_setR {B : Int} (i g v : Int) (hg : ∀ d ∈ L, 0 ≤ d.1 ∧ d.1 ≤ B) : (∀ e ∈ (setR L i g v).1, 0 ≤ e.1 ∧ e.1 ≤ B) ∧ (setR L i g v).1.length = L.length := by
  unfold setR
  split
  · rename_i k v0 hl
    obtain ⟨-, hd⟩ := live_some hl
    have hq := hg _ (List.mem_of_getElem? hd)
    exact ⟨gens_set hg hq, by simp⟩
  · exact ⟨hg, rfl⟩
theorem gens_take {B : Int} (hs : List (Int × Int)) : ∀ (st : List Slot × Nat), (∀ d ∈ st.1, 0 ≤ d.1 ∧ d.1 ≤ B) → (∀ e ∈ (hs.foldl take1 st).1, 0 ≤ e.1 ∧ e.1 ≤ B) ∧ (hs.foldl take1 st).1.length = st.1.length := by
  induction hs with
  | nil => intro st hg; exact ⟨hg, rfl⟩
  | cons h hs ih =>
    intro st hg
    rw [List.foldl_cons]
    have h1 : (∀ d ∈ (take1 st h).1, 0 ≤ d.1 ∧ d.1 ≤ B) ∧ (take1 st h).1.length = st.1.length := by
      unfold take1
      split
      · rename_i k v0 hl
        obtain ⟨-, hd⟩ := live_some hl
        have hq := hg _ (List.mem_of_getElem? hd)
        exact ⟨gens_set hg hq, by simp⟩
      · exact ⟨hg, rfl⟩
    obtain ⟨a, b⟩ := ih _ h1.1
    exact ⟨a, b.trans h1.2⟩
theorem gens_put {k : Nat} (v : Int) (hg : ∀ d ∈ L, 0 ≤ d.1 ∧ d.1 ≤ k) : (∀ e ∈ putL L v, 0 ≤ e.1 ∧ e.1 ≤ ((k + 1 : Nat) : Int)) ∧ (putL L v).length ≤ L.length + 1 := by
  have hg' : ∀ d ∈ L, 0 ≤ d.1 ∧ d.1 ≤ ((k + 1 : Nat) : Int) := fun d hd => ⟨(hg d hd).1, by have := (hg d hd).2; omega⟩
  unfold putL
  split
  · rename_i d hd
    have := hg d (List.mem_of_getElem? hd)
    exact ⟨gens_set hg' ⟨by simp only; omega, by simp only; omega⟩, by simp⟩
  · refine ⟨fun e he => ?_, by simp⟩
    rcases List.mem_append.1 he with h | h
    · exact hg' e h
    · simp at h
      subst h
      simp only
      omega
/-- both have turned, in place. -/
theorem SPB.turn (h : SPB w W s x k F G lim L n gv hs) (h1 : SRep W1 s F lim L' n') (k1 : Keeps F W W1) (h2 : RS W2 x G lim L' n') (k2 : Keeps G W1 W2) (k3 : Keeps [] W2 W3) (hg : ∀ d ∈ L', 0 ≤ d.1 ∧ d.1 ≤ k) (hl : L'.length ≤ k) (hn : n - 3 ≤ n') (hn2 : n' ≤ n) : SPB w W3 s x (k + 1) F G lim L' n' gv hs := by
  obtain ⟨a1, a2, a3, a4, a5, a6, a7, a8, a9, a10, a11, a12, a13, a14⟩ := h
  exact ⟨(h1.keeps k2 a5).keeps k3 (by simp), h2.keeps k3 (by simp), a3, a4, a5, fun d hd => ⟨(hg d hd).1, by have := (hg d hd).2; omega⟩, by omega, by omega, by omega,
    ((a10.keeps k1 (fun j hj => (a11 j hj).2.1)).keeps k2 (fun j hj => (a11 j hj).2.2)).keeps k3 (by simp), a11, a12, by omega, ((a14.trans k1 (fun j hj => .inr (a3 j hj))).trans k2 (fun j hj => .inr (a4 j hj))).trans k3 (by simp)⟩
/-- both have taken one in, and what was given has grown. -/
theorem SPB.put {W1' : World} {b : Int × Int} (h : SPB w W s x k F G lim L n gv hs) (h1 : SRep W1 s F' lim L' n') (k1 : Keeps F W W1) (l1 : Later F W F') (k1' : Keeps [] W1 W1') (h2 : RS W2 x G' lim L' n') (k2 : Keeps G W1' W2) (l2 : Later G W1' G') (k3 : Keeps [] W2 W3)
    (hr : Row W4 30 2 gv' (hs.length + 1) (handlesV hs ++ [.int .i64 b.1, .int .i64 b.2])) (k4 : Keeps gv.ownBlock.toList W3 W4) (o4 : ∀ j, gv'.ownBlock = some j → gv.ownBlock = some j ∨ W3.heap.size ≤ j)
    (hg : ∀ d ∈ L', 0 ≤ d.1 ∧ d.1 ≤ ((k + 1 : Nat) : Int)) (hl : L'.length ≤ k + 1) (hn : n ≤ n') (hn2 : n' ≤ lim) : SPB w W4 s x (k + 1) F' G' lim L' n' gv' (hs ++ [b]) := by
  obtain ⟨a1, a2, a3, a4, a5, a6, a7, a8, a9, a10, a11, a12, a13, a14⟩ := h
  have z1 := k1.size
  have z1' := k1'.size
  have z2 := k2.size
  have z3 := k3.size
  have z0 := a14.size
  have f1 : ∀ j ∈ F', j < W1.heap.size := h1.flt
  have g1 : ∀ j ∈ G', j < W2.heap.size := h2.flt
  have fF : ∀ j ∈ F', (j ∈ F ∧ j < W.heap.size) ∨ W.heap.size ≤ j := fun j hj => by
    rcases l1 j hj with h | h
    · exact .inl ⟨h, a1.flt j h⟩
    · exact .inr h
  have gG : ∀ j ∈ G', (j ∈ G ∧ j < W.heap.size) ∨ W1'.heap.size ≤ j := fun j hj => by
    rcases l2 j hj with h | h
    · exact .inl ⟨h, a2.flt j h⟩
    · exact .inr h
  have fG : ∀ j ∈ F', j ∉ G := fun j hj hx => by
    rcases fF j hj with h | h
    · exact a5 j h.1 hx
    · have := a2.flt j hx
      omega
  have own : ∀ j, gv.ownBlock = some j → w.heap.size ≤ j ∧ j ∉ F' ∧ j ∉ G' ∧ j < W.heap.size := fun j hj => by
    have h5 := a10.lt j hj
    obtain ⟨q1, q2, q3⟩ := a11 j hj
    refine ⟨q1, fun hx => ?_, fun hx => ?_, h5⟩
    · rcases fF j hx with h | h
      · exact q2 h.1
      · omega
    · rcases gG j hx with h | h
      · exact q3 h.1
      · omega
  have kk : Keeps [] w W4 := ((((a14.trans k1 (fun j hj => .inr (a3 j hj))).trans k1' (by simp)).trans k2 (fun j hj => .inr (a4 j hj))).trans k3 (by simp)).trans k4 (fun j hj => .inr (own j (by simpa using hj)).1)
  refine ⟨(((h1.keeps k1' (by simp)).keeps k2 fG).keeps k3 (by simp)).keeps k4 (fun j hj hx => (own j (by simpa using hx)).2.1 hj), (h2.keeps k3 (by simp)).keeps k4 (fun j hj hx => (own j (by simpa using hx)).2.2.1 hj), fun j hj => ?_, fun j hj => ?_, fun j hj hx => ?_, hg, hl, by omega, hn2, ?_, fun j hj => ?_, by simp, by simp; omega, kk⟩
  · rcases fF j hj with h | h
    · exact a3 j h.1
    · omega
  · rcases gG j hj with h | h
    · exact a4 j h.1
    · omega
  · rcases gG j hx with h | h
    · exact fG j hj h.1
    · have := f1 j hj
      omega
  · have e : handlesV hs ++ [Value.int .i64 b.1, .int .i64 b.2] = handlesV (hs ++ [b]) := by simp [handlesV]
    rw [e] at hr
    simpa using hr
  · rcases o4 j hj with h | h
    · exact ⟨(own j h).1, (own j h).2.1, (own j h).2.2.1⟩
    · refine ⟨by omega, fun hx => ?_, fun hx => ?_⟩
      · have := f1 j hx
        omega
      · have := g1 j hx
        omega
end
/-- behind the switch. -/
def SCut (w W : World) (s x k : Nat) (lim : Int) (hB : Nat) (gv : Value) : Prop :=
  ∃ F G L n hs i g, SPB w W s x k F G lim L n gv hs ∧ Blk W hB 30 #[.int .i64 i, .int .i64 g] ∧ hB ∉ F ∧ hB ∉ G
structure SAct where
  k : Int
  n : Int
  kk : Int
  i : Int
  g : Int
instance : Inhabited SAct := ⟨⟨0, 0, 0, 0, 0⟩⟩
/-- v is a script. -/
def SActsIn (w : World) (v : Value) (l : List SAct) : Prop :=
  ∃ A cap, v = .slice A l.length cap ∧ l.length ≤ cap ∧ cap ≤ maxLen ∧ (0 < l.length → ∃ b o, A = some ⟨b, o, none⟩ ∧ ∀ j a, l[j]? = some a →
    w.cell? ⟨b, o + j * 5, none⟩ = some (.int .i64 a.k) ∧ w.cell? ⟨b, o + j * 5 + 1, none⟩ = some (.int .i64 a.n) ∧ w.cell? ⟨b, o + j * 5 + 2, none⟩ = some (.int .i64 a.kk) ∧ w.cell? ⟨b, o + j * 5 + 3, none⟩ = some (.int .i64 a.i) ∧ w.cell? ⟨b, o + j * 5 + 4, none⟩ = some (.int .i64 a.g))
theorem SActsIn.shape {w : World} {v : Value} {l : List SAct} (h : SActsIn w v l) : ∃ A c, v = .slice A l.length c ∧ l.length ≤ c ∧ c ≤ 9223372036854775807 := by
  obtain ⟨A, c, hv, h1, h2, h3⟩ := h
  exact ⟨A, c, hv, h1, by unfold maxLen at h2; omega⟩
theorem SActsIn.at_ {w : World} {A : Option Addr} {n c : Nat} {l : List SAct} (h : SActsIn w (.slice A n c) l) (hn : 0 < l.length) :
    ∃ b o, A = some ⟨b, o, none⟩ ∧ ∀ j a, l[j]? = some a →
      w.cell? ⟨b, o + j * 5, none⟩ = some (.int .i64 a.k) ∧ w.cell? ⟨b, o + j * 5 + 1, none⟩ = some (.int .i64 a.n) ∧ w.cell? ⟨b, o + j * 5 + 2, none⟩ = some (.int .i64 a.kk) ∧ w.cell? ⟨b, o + j * 5 + 3, none⟩ = some (.int .i64 a.i) ∧ w.cell? ⟨b, o + j * 5 + 4, none⟩ = some (.int .i64 a.g) := by
  obtain ⟨A', c', hv, h1, h2, h3⟩ := h
  injection hv with hA
  subst hA
  exact h3 hn
theorem Row.hsInK {w : World} {F : List Nat} {v : Value} {n : Nat} {hs : List (Int × Int)} (h : Row w 30 2 v n (handlesV hs)) (hl : hs.length = n) (hF : ∀ k, v.ownBlock = some k → k ∉ F) : HsIn w F v hs := by
  subst hl
  exact h.hsIn hF
set_option maxHeartbeats 1000000 in
theorem handles_any (a b : Value) (hs : List (Int × Int)) (w : World) (ha : HsIn w [] a hs) (hb : HsIn w [] b hs) :
    Calls Try.prog 30 #[a, b] w fun e w' => e = .returned (.bool true) ∧ Keeps [] w w' := by
  have HA := hid ha
  have HB := hid hb
  obtain ⟨A, ca, rfl, ha1, ha2⟩ := ha.shape
  obtain ⟨B, cb, rfl, hb1, hb2⟩ := hb.shape
  clear ha hb
  go_enter Try.func30, Try.ntmps30
  go_wp2_with fail
  go_loopw [5] (fun i wr => ∃ k : Nat, k ≤ hs.length ∧ i = .int .i64 k ∧ Keeps [] w wr) (fun i _ => hs.length - (intOf i).toNat)
  case atStart => exact ⟨0, Nat.zero_le _, rfl, Keeps.refl _ _⟩
  case round =>
    obtain ⟨k, hk, rfl, hkp⟩ := hrel
    by_cases hlt : k < hs.length
    · obtain ⟨h, hh⟩ : ∃ h, hs[k]? = some h := ⟨hs[k], by simp [hlt]⟩
      obtain ⟨p1, o1, rfl, -, hc1⟩ := (HA.out.keeps hkp (by simp)).at_ (by omega)
      obtain ⟨p2, o2, rfl, -, hc2⟩ := (HB.out.keeps hkp (by simp)).at_ (by omega)
      obtain ⟨d0, d1⟩ := hc1 k h hh
      obtain ⟨d2, d3⟩ := hc2 k h hh
      obtain ⟨hi, hg⟩ := h
      simp only at d0 d1 d2 d3
      have hki : (k : Int) < hs.length := by omega
      clear hc1 hc2 hh
      go_wp2_with fail
      first
        | (go_region_law (fail)
           all_goals
             go_wp2_with fail
             go_roundw
             case rel => exact ⟨k + 1, by omega, by go_num, hkp.drew⟩
             case measure => simp [intOf] <;> omega)
        | (go_roundw
           case rel => exact ⟨k + 1, by omega, by go_num, hkp⟩
           case measure => simp [intOf] <;> omega)
    · have hkl : k = hs.length := by omega
      subst hkl
      go_wp2
      go_ret
      exact ⟨rfl, hkp⟩
end Go.Proofs.Ytkeffebcmajhmaa
