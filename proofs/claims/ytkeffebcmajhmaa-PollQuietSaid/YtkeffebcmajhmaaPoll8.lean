/- The laws' events by contract. -/
import Derived.Test.YtkeffebcmajhmaaPoll7
namespace Go.Proofs.Ytkeffebcmajhmaa
open Go.RowKit
set_option linter.unusedVariables false
set_option linter.unusedSimpArgs false
/-- an Event: Handle, id, read, write. -/
abbrev Ev := (Int × Int) × Int × Bool × Bool
def evV (e : Ev) : List Value := [.int .i64 e.1.1, .int .i64 e.1.2, .int .i64 e.2.1, .bool e.2.2.1, .bool e.2.2.2]
def evA (e : Ev) : Value := .agg #[.int .i64 e.1.1, .int .i64 e.1.2, .int .i64 e.2.1, .bool e.2.2.1, .bool e.2.2.2]
def evsV (l : List Ev) : List Value := l.flatMap evV
theorem evsV_length (l : List Ev) : (evsV l).length = l.length * 5 := by
  induction l with
  | nil => rfl
  | cons d l ih => simp only [evsV, evV, List.flatMap_cons, List.length_append, List.length_cons, List.length_nil] at ih ⊢; omega
theorem evsV_append (a b : List Ev) : evsV (a ++ b) = evsV a ++ evsV b := by simp [evsV]
theorem evsV_get (l : List Ev) (k : Nat) (e : Ev) (he : l[k]? = some e) : (evsV l)[k * 5]? = some (.int .i64 e.1.1) ∧ (evsV l)[k * 5 + 1]? = some (.int .i64 e.1.2) ∧ (evsV l)[k * 5 + 2]? = some (.int .i64 e.2.1) ∧ (evsV l)[k * 5 + 3]? = some (.bool e.2.2.1) ∧ (evsV l)[k * 5 + 4]? = some (.bool e.2.2.2) := by
  induction l generalizing k with
  | nil => simp at he
  | cons d l ih =>
    cases k with
    | zero => simp at he; subst he; simp [evsV, evV]
    | succ k =>
      have h' := ih k (by simpa using he)
      have e0 : (k + 1) * 5 = k * 5 + 1 + 1 + 1 + 1 + 1 := by omega
      have e1 : (k + 1) * 5 + 1 = (k * 5 + 1) + 1 + 1 + 1 + 1 + 1 := by omega
      have e2 : (k + 1) * 5 + 2 = (k * 5 + 2) + 1 + 1 + 1 + 1 + 1 := by omega
      have e3 : (k + 1) * 5 + 3 = (k * 5 + 3) + 1 + 1 + 1 + 1 + 1 := by omega
      have e4 : (k + 1) * 5 + 4 = (k * 5 + 4) + 1 + 1 + 1 + 1 + 1 := by omega
      rw [e1, e2, e3, e4, e0]
      simp only [evsV, evV, List.flatMap_cons, List.cons_append, List.nil_append] at h' ⊢
      refine ⟨?_, ?_, ?_, ?_, ?_⟩
      · simpa using h'.1
      · simpa using h'.2.1
      · simpa using h'.2.2.1
      · simpa using h'.2.2.2.1
      · simpa using h'.2.2.2.2
def EvAt (w : World) (b o : Nat) (e : Ev) : Prop := w.cell? ⟨b, o, none⟩ = some (.int .i64 e.1.1) ∧ w.cell? ⟨b, o + 1, none⟩ = some (.int .i64 e.1.2) ∧ w.cell? ⟨b, o + 2, none⟩ = some (.int .i64 e.2.1) ∧ w.cell? ⟨b, o + 3, none⟩ = some (.bool e.2.2.1) ∧ w.cell? ⟨b, o + 4, none⟩ = some (.bool e.2.2.2)
/-- v is a slice of Events. -/
def EvIn (w : World) (F : List Nat) (v : Value) (l : List Ev) : Prop :=
  ∃ A c, v = .slice A l.length c ∧ l.length ≤ c ∧ c ≤ maxLen ∧ (0 < l.length → ∃ b o, A = some ⟨b, o, none⟩ ∧ b ∉ F ∧ ∀ j e, l[j]? = some e → EvAt w b (o + j * 5) e)
theorem EvIn.keeps {w w' : World} {F G : List Nat} {v : Value} {l : List Ev} (h : EvIn w F v l) (hk : Keeps G w w') (hG : ∀ x ∈ G, x ∈ F ∨ w.heap.size ≤ x) : EvIn w' F v l := by
  obtain ⟨A, c, hv, h1, h2, h3⟩ := h
  refine ⟨A, c, hv, h1, h2, fun hp => ?_⟩
  obtain ⟨b, o, hA, hb, hc⟩ := h3 hp
  refine ⟨b, o, hA, hb, fun j u hu => ?_⟩
  obtain ⟨c1, c2, c3, c4, c5⟩ := hc j u hu
  have hlt := World.block_lt_of_cell? w _ c1
  have hbG : b ∉ G := fun hx => (hG _ hx).elim hb (fun h5 => absurd hlt (Nat.not_lt.2 h5))
  exact ⟨cell_keep hk hbG c1, cell_keep hk hbG c2, cell_keep hk hbG c3, cell_keep hk hbG c4, cell_keep hk hbG c5⟩
theorem EvIn.shape {w : World} {F : List Nat} {v : Value} {l : List Ev} (h : EvIn w F v l) : ∃ A c, v = .slice A l.length c ∧ l.length ≤ c ∧ c ≤ 9223372036854775807 := by
  obtain ⟨A, c, hv, h1, h2, h3⟩ := h
  exact ⟨A, c, hv, h1, by unfold maxLen at h2; omega⟩
theorem EvIn.at_ {w : World} {F : List Nat} {A : Option Addr} {n c : Nat} {l : List Ev} (h : EvIn w F (.slice A n c) l) (hn : 0 < l.length) :
    ∃ b o, A = some ⟨b, o, none⟩ ∧ b ∉ F ∧ ∀ j e, l[j]? = some e → EvAt w b (o + j * 5) e := by
  obtain ⟨A', c', hv, h1, h2, h3⟩ := h
  injection hv with hA
  subst hA
  exact h3 hn
theorem Row.evIn {w : World} {F : List Nat} {v : Value} {l : List Ev} (h : Row w 95 5 v l.length (evsV l)) (hF : ∀ k, v.ownBlock = some k → k ∉ F) : EvIn w F v l := by
  obtain ⟨A, c, rfl, h1, h2, h3, -⟩ := h.form
  refine ⟨A, c, rfl, h1, h2, fun hp => ?_⟩
  obtain ⟨g, off, cap, hv, -, -, hc, -⟩ := h.open_ hp
  injection hv with hA
  subst hA
  refine ⟨g, off, rfl, hF g rfl, fun j u hu => ?_⟩
  obtain ⟨g0, g1, g2, g3, g4⟩ := evsV_get l j u hu
  exact ⟨hc _ _ g0, by rw [Nat.add_assoc]; exact hc _ _ g1, by rw [Nat.add_assoc]; exact hc _ _ g2, by rw [Nat.add_assoc]; exact hc _ _ g3, by rw [Nat.add_assoc]; exact hc _ _ g4⟩
theorem event_info : (Try.prog.info? 95).map (fun i => (i.zero, i.size, i.bytes)) = some (some (.agg #[.int .i64 0, .int .i64 0, .int .i64 0, .bool false, .bool false]), 5, 32) := by kernel_rfl
theorem run_eqInH (n : Nat) (a b c d : Int) (w : World) : (Op.equalIn (n + 2) 30 (.agg #[.int .i64 a, .int .i64 b]) (.agg #[.int .i64 c, .int .i64 d])).run Try.prog w = .ok (a == c && b == d) w := by
  have hp0 : ∀ (x y : Int) (w : World), (part 3 #[.int .i64 x, .int .i64 y] 0).run Try.prog w = .ok (.int .i64 x) w := fun _ _ _ => by kernel_rfl
  have hp1 : ∀ (x y : Int) (w : World), (part 3 #[.int .i64 x, .int .i64 y] 1).run Try.prog w = .ok (.int .i64 y) w := fun _ _ _ => by kernel_rfl
  have he : ∀ (x y : Int) (w : World), (Op.equalIn (n + 1) 3 (.int .i64 x) (.int .i64 y)).run Try.prog w = .ok (x == y) w := fun x y w => run_equalIn_int w n 3 .i64 .i64 x y Try.underlying3
  show (Op.equalIn (n + 1 + 1) _ _ _).run _ _ = _
  rw [run_equalIn_struct w (n + 1) 30 _ _ (by simp [Program.fieldsOf, Try.underlying30]) (by kernel_rfl)]
  simp [Program.fieldsOf, Try.underlying30, Op.eqFields, hp0, hp1, he]
  by_cases h1 : a = c <;> by_cases h2 : b = d <;> simp [h1, h2]
theorem run_eqEv (a b : Ev) (w : World) : (Op.equal 95 (evA a) (evA b)).run Try.prog w = .ok (decide (a = b)) w := by
  obtain ⟨⟨a1, a2⟩, a3, a4, a5⟩ := a
  obtain ⟨⟨b1, b2⟩, b3, b4, b5⟩ := b
  have hp0 : ∀ (x y z : Int) (r u : Bool) (w : World), (part 30 #[.int .i64 x, .int .i64 y, .int .i64 z, .bool r, .bool u] 0).run Try.prog w = .ok (.agg #[.int .i64 x, .int .i64 y]) w := fun _ _ _ _ _ _ => by kernel_rfl
  have hp2 : ∀ (x y z : Int) (r u : Bool) (w : World), (part 3 #[.int .i64 x, .int .i64 y, .int .i64 z, .bool r, .bool u] 2).run Try.prog w = .ok (.int .i64 z) w := fun _ _ _ _ _ _ => by kernel_rfl
  have hp3 : ∀ (x y z : Int) (r u : Bool) (w : World), (part 4 #[.int .i64 x, .int .i64 y, .int .i64 z, .bool r, .bool u] 3).run Try.prog w = .ok (.bool r) w := fun _ _ _ _ _ _ => by kernel_rfl
  have hp4 : ∀ (x y z : Int) (r u : Bool) (w : World), (part 4 #[.int .i64 x, .int .i64 y, .int .i64 z, .bool r, .bool u] 4).run Try.prog w = .ok (.bool u) w := fun _ _ _ _ _ _ => by kernel_rfl
  have he : ∀ (x y : Int) (w : World), (Op.equalIn 9999 3 (.int .i64 x) (.int .i64 y)).run Try.prog w = .ok (x == y) w := fun x y w => run_equalIn_int w 9998 3 .i64 .i64 x y Try.underlying3
  have heb : ∀ (x y : Bool) (w : World), (Op.equalIn 9999 4 (.bool x) (.bool y)).run Try.prog w = .ok (x == y) w := fun x y w => by kernel_rfl
  have heh : ∀ (x y z u : Int) (w : World), (Op.equalIn 9999 30 (.agg #[.int .i64 x, .int .i64 y]) (.agg #[.int .i64 z, .int .i64 u])).run Try.prog w = .ok (x == z && y == u) w := fun x y z u w => run_eqInH 9997 x y z u w
  show (Op.equalIn (9999 + 1) _ _ _).run _ _ = _
  unfold evA
  rw [run_equalIn_struct w 9999 95 _ _ (by simp [Program.fieldsOf, Try.underlying95]) (by kernel_rfl)]
  simp [Program.fieldsOf, Try.underlying95, Op.eqFields, hp0, hp2, hp3, hp4, he, heb, heh]
  by_cases h1 : a1 = b1 <;> by_cases h2 : a2 = b2 <;> by_cases h3 : a3 = b3 <;> by_cases h4 : a4 = b4 <;> by_cases h5 : a5 = b5 <;> simp [h1, h2, h3, h4, h5]
end Go.Proofs.Ytkeffebcmajhmaa
