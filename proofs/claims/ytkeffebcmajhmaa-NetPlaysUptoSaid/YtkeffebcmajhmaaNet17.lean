/- The net's laws: a net that has come into being behind some world; 'same', 'known' by contract. -/
import Derived.Test.YtkeffebcmajhmaaNet16
import Derived.Test.YtkeffebcmajhmaaBase2
namespace Go.Proofs.Ytkeffebcmajhmaa
open Go.RowKit
set_option linter.unusedVariables false
theorem take_eq_snoc {xs ys : List Int} {k : Nat} (h : xs.take k = ys.take k) {x : Int} (hx : xs[k]? = some x) (hy : ys[k]? = some x) : xs.take (k + 1) = ys.take (k + 1) := by
  rw [List.take_add_one, List.take_add_one, h, hx, hy]
/-- Two rows of bytes: are they the same? -/
def sameB (xs ys : List Int) : Bool := decide (xs = ys)
theorem sameB_self (xs : List Int) : sameB xs xs = true := by simp [sameB]
theorem nsame_any (a b : Value) (xs ys : List Int) (w : World) (ha : CellsIn w [] a (bytesV xs)) (hb : CellsIn w [] b (bytesV ys)) :
    Calls Try.prog 44 #[a, b] w fun e w' => e = .returned (.bool (sameB xs ys)) ∧ Keeps [] w w' := by
  have HA := hid ha
  have HB := hid hb
  obtain ⟨A, ca, rfl, ha1, ha2⟩ := ha.shape
  obtain ⟨B, cb, rfl, hb1, hb2⟩ := hb.shape
  clear ha hb
  simp only [bytesV, List.length_map] at HA HB ha1 hb1 ⊢
  have hxl : xs.length ≤ 9223372036854775807 := by omega
  have hyl : ys.length ≤ 9223372036854775807 := by omega
  clear ha1 ha2 hb1 hb2
  by_cases hl : xs.length = ys.length
  · have hlb : (((xs.length : Nat) : Int) != (ys.length : Nat)) = false := by simp [hl]
    have HL := hid hl
    clear hl
    go_enter Try.func44, Try.ntmps44
    go_wp2
    go_loopw [5] (fun i wr => ∃ k : Nat, k ≤ xs.length ∧ i = .int .i64 k ∧ xs.take k = ys.take k ∧ Keeps [] w wr) (fun i _ => xs.length - (intOf i).toNat)
    case atStart => exact ⟨0, Nat.zero_le _, rfl, by simp, Keeps.refl _ _⟩
    case round =>
      obtain ⟨k, hk, rfl, ht, hkp⟩ := hrel
      have HT := hid ht
      clear ht
      by_cases hlt : k < xs.length
      · have hlt2 : k < ys.length := by rw [← HL.out]; exact hlt
        obtain ⟨x, hx⟩ : ∃ x, xs[k]? = some x := ⟨xs[k], by simp [hlt]⟩
        obtain ⟨y, hy⟩ : ∃ y, ys[k]? = some y := ⟨ys[k], by simp [hlt2]⟩
        obtain ⟨b1, o1, rfl, -, hc1⟩ := (HA.out.keeps hkp (by simp)).at_ (by simp; omega)
        obtain ⟨b2, o2, rfl, -, hc2⟩ := (HB.out.keeps hkp (by simp)).at_ (by simp; omega)
        have e1 := hc1 k (.int .u8 x) (by simp [hx])
        have e2 := hc2 k (.int .u8 y) (by simp [hy])
        clear hc1 hc2
        have HX := hid hx
        have HY := hid hy
        clear hx hy
        have i1 : (k : Int) < xs.length := by omega
        have i2 : (k : Int) < ys.length := by omega
        by_cases hxy : x = y
        · have hne : (x != y) = false := by simp [hxy]
          have hxy := hid hxy
          go_wp2_with fail
          go_quiet (fail)
          go_wp2
          go_roundw
          case rel =>
            have h1 := HX.out
            rw [hxy.out] at h1
            exact ⟨k + 1, by omega, by go_num, take_eq_snoc HT.out h1 HY.out, hkp.drewN _⟩
          case measure => simp [intOf]; omega
        · have hne : (x != y) = true := by simp [hxy]
          have HF : Hid (sameB xs ys = false) := by
            unfold sameB
            refine decide_eq_false fun he => hxy ?_
            have h1 := HX.out
            rw [he, HY.out] at h1
            injection h1 with h1
            exact h1.symm
          clear hxy
          go_wp2_with fail
          go_quiet (fail)
          go_wp2
          go_ret
          exact ⟨by rw [HF.out]; rfl, hkp.drewN _⟩
      · have hkl : k = xs.length := by omega
        subst hkl
        have HF : Hid (sameB xs ys = true) := by
          have h1 := HT.out
          rw [List.take_length, HL.out, List.take_length] at h1
          rw [h1]
          exact sameB_self _
        go_wp2
        go_ret
        exact ⟨by rw [HF.out]; rfl, hkp⟩
  · have hlb : (((xs.length : Nat) : Int) != (ys.length : Nat)) = true := by simp; omega
    have HF : Hid (sameB xs ys = false) := by
      unfold sameB
      exact decide_eq_false fun he => hl (by rw [he])
    clear hl
    go_enter Try.func44, Try.ntmps44
    go_wp2
    go_ret
    exact ⟨by rw [HF.out]; rfl, Keeps.refl _ _⟩
set_option maxHeartbeats 400000 in

/-- A net whose blocks are all newer than the world w0; rows of bytes that lie aside of it. -/
def NSt (w0 : World) (c : Cfg) (A : List (Value × List Int)) (w : World) (n : Nat) (N : NS) : Prop :=
  ∃ F, NRep c w n F N ∧ (∀ k ∈ F, w0.heap.size ≤ k) ∧ Keeps [] w0 w ∧ ∀ r ∈ A, Row w 5 1 r.1 r.2.length (bytesV r.2) ∧ (∀ k, r.1.ownBlock = some k → k ∉ F) ∧ ∀ k, r.1.ownBlock = some k → w0.heap.size ≤ k
section
variable {w0 w w' : World} {c : Cfg} {A A' : List (Value × List Int)} {n : Nat} {N N' : NS} {F : List Nat} {B : Int}
theorem NSt.keepsW (h : NSt w0 c A w n N) : Keeps [] w0 w := by
  obtain ⟨F, h1, h2, h3, h4⟩ := h
  exact h3
theorem NSt.row (h : NSt w0 c A w n N) {r : Value × List Int} (hr : r ∈ A) : Row w 5 1 r.1 r.2.length (bytesV r.2) := by
  obtain ⟨F, h1, h2, h3, h4⟩ := h
  exact (h4 r hr).1
theorem NSt.less (h : NSt w0 c A w n N) (hA : ∀ r ∈ A', r ∈ A) : NSt w0 c A' w n N := by
  obtain ⟨F, h1, h2, h3, h4⟩ := h
  exact ⟨F, h1, h2, h3, fun r hr => h4 r (hA r hr)⟩
theorem NSt.next (h : NSt w0 c A w n N) (hk : Keeps [] w w') : NSt w0 c A w' n N := by
  obtain ⟨F, h1, h2, h3, h4⟩ := h
  exact ⟨F, h1.keeps hk (by simp), h2, h3.trans hk (by simp), fun r hr => ⟨(h4 r hr).1.keeps hk (by simp), (h4 r hr).2⟩⟩
/-- a new row lies aside. -/
theorem NSt.more (h : NSt w0 c A w n N) (hk : Keeps [] w w') {v : Value} {l : List Int} (hv : Row w' 5 1 v l.length (bytesV l)) (ho : ∀ k, v.ownBlock = some k → w.heap.size ≤ k) : NSt w0 c ((v, l) :: A) w' n N := by
  obtain ⟨F, h1, h2, h3, h4⟩ := h
  refine ⟨F, h1.keeps hk (by simp), h2, h3.trans hk (by simp), fun r hr => ?_⟩
  rcases List.mem_cons.1 hr with rfl | hr
  · exact ⟨hv, fun k e hx => by have := h1.flt k hx; have := ho k e; omega, fun k e => by have := ho k e; have := h3.size; omega⟩
  · exact ⟨(h4 r hr).1.keeps hk (by simp), (h4 r hr).2⟩
/-- a row aside has been written on; the others are let go. -/
theorem NSt.swap {v v' : Value} {l l' : List Int} (h : NSt w0 c A w n N) (hm : (v, l) ∈ A) (hk : Keeps v.ownBlock.toList w w') (hv : Row w' 5 1 v' l'.length (bytesV l')) (ho : ∀ k, v'.ownBlock = some k → v.ownBlock = some k ∨ w.heap.size ≤ k) : NSt w0 c [(v', l')] w' n N := by
  obtain ⟨F, h1, h2, h3, h4⟩ := h
  obtain ⟨g1, g2, g3⟩ := h4 _ hm
  refine ⟨F, h1.keeps hk (fun k hF hx => g2 k (by simpa using hx) hF), h2, h3.trans hk (fun g hg => .inr (g3 g (by simpa using hg))), fun r hr => ?_⟩
  simp at hr
  subst hr
  refine ⟨hv, fun k e hx => ?_, fun k e => ?_⟩
  · rcases ho k e with e1 | e1
    · exact g2 k e1 hx
    · have := h1.flt k hx
      omega
  · rcases ho k e with e1 | e1
    · exact g3 k e1
    · have := h3.size
      omega
theorem NSt.done (h1 : ∀ k ∈ F, w0.heap.size ≤ k) (h3 : Keeps [] w0 w) (h4 : ∀ r ∈ A, Row w 5 1 r.1 r.2.length (bytesV r.2) ∧ (∀ k, r.1.ownBlock = some k → k ∉ F) ∧ ∀ k, r.1.ownBlock = some k → w0.heap.size ≤ k) (hd : NDone c w n F N' w') : NSt w0 c A w' n N' := by
  obtain ⟨⟨F', h5, h6⟩, h7⟩ := hd
  refine ⟨F', h5, fun k hk => ?_, h3.trans h7 (fun g hg => .inr (h1 g hg)), fun r hr => ?_⟩
  · rcases h6 k hk with e | e
    · exact h1 k e
    · have := h3.size
      omega
  · obtain ⟨g1, g2, g3⟩ := h4 r hr
    refine ⟨g1.keeps h7 (fun k e => g2 k e), fun k e hx => ?_, g3⟩
    rcases h6 k hx with e1 | e1
    · exact g2 k e e1
    · have := g1.lt k e
      omega
theorem nnew_S (b : Int) (w0 w : World) (hk : Keeps [] w0 w) (h1 : 1 ≤ b) (h2 : b ≤ 64) :
    Calls Try.prog 34 #[.int .i64 b] w fun e w' => ∃ n, e = .returned (.tuple #[.pointer (some ⟨n, 0, none⟩), .int .i64 0]) ∧ NSt w0 pc [] w' n (newN b) :=
  (nnew_ok b w h1 h2).mono fun e w' ⟨he, hr, hk'⟩ => ⟨_, he, _, hr, by simpa using hk.size, hk.trans hk' (by simp), by simp⟩
theorem connect_S (h : NSt w0 pc A w n N) (hN : OkN N B) (hB : B ≤ 1099511627776) (peer : Int) :
    Calls Try.prog 37 #[.pointer (some ⟨n, 0, none⟩), .int .i64 peer] w fun e w' => e = .returned (.tuple #[.int .i64 (connectN N peer).2.1, .int .i64 (connectN N peer).2.2]) ∧ NSt w0 pc A w' n (connectN N peer).1 := by
  obtain ⟨F, h1, h2, h3, h4⟩ := h
  exact (connect_any n F N B peer w h1 hN hB).mono fun e w' ⟨he, hd⟩ => ⟨he, NSt.done h2 h3 h4 hd⟩
theorem inject_S (h : NSt w0 pc A w n N) (k : Int) (hk0 : -9223372036854775808 ≤ k) (hk1 : k ≤ 9223372036854775807) :
    Calls Try.prog 35 #[.pointer (some ⟨n, 0, none⟩), .int .i64 k] w fun e w' => e = .returned (.tuple #[]) ∧ NSt w0 pc A w' n (injectN N k) := by
  obtain ⟨F, h1, h2, h3, h4⟩ := h
  exact (inject_any n F N k w h1 hk0 hk1).mono fun e w' ⟨he, hd⟩ => ⟨he, NSt.done h2 h3 h4 hd⟩
theorem accept_S (h : NSt w0 pc A w n N) (hN : OkN N B) (hB : B ≤ 1099511627776) :
    Calls Try.prog 36 #[.pointer (some ⟨n, 0, none⟩)] w fun e w' => e = .returned (.tuple #[.int .i64 (acceptN N).2.1, .int .i64 (acceptN N).2.2.1, .int .i64 (acceptN N).2.2.2]) ∧ NSt w0 pc A w' n (acceptN N).1 := by
  obtain ⟨F, h1, h2, h3, h4⟩ := h
  exact (accept_any n F N B w h1 hN hB).mono fun e w' ⟨he, hd⟩ => ⟨he, NSt.done h2 h3 h4 hd⟩
theorem half_S (h : NSt w0 pc A w n N) (hN : OkN N B) (hB : B ≤ 1099511627776) (k : Int) :
    Calls Try.prog 46 #[.pointer (some ⟨n, 0, none⟩), .int .i64 k] w fun e w' => e = .returned (.int .i64 (halfN N k).2) ∧ NSt w0 pc A w' n (halfN N k).1 := by
  obtain ⟨F, h1, h2, h3, h4⟩ := h
  exact (half_any n F N B k w h1 hN hB).mono fun e w' ⟨he, hd⟩ => ⟨he, NSt.done h2 h3 h4 hd⟩
theorem reset_S (h : NSt w0 pc A w n N) (hN : OkN N B) (hB : B ≤ 1099511627776) (k : Int) :
    Calls Try.prog 47 #[.pointer (some ⟨n, 0, none⟩), .int .i64 k] w fun e w' => e = .returned (.int .i64 (resetN N k).2) ∧ NSt w0 pc A w' n (resetN N k).1 := by
  obtain ⟨F, h1, h2, h3, h4⟩ := h
  exact (reset_any n F N B k w h1 hN hB).mono fun e w' ⟨he, hd⟩ => ⟨he, NSt.done h2 h3 h4 hd⟩
theorem shut_S (h : NSt w0 pc A w n N) (hN : OkN N B) (hB : B ≤ 1099511627776) (k : Int) :
    Calls Try.prog 64 #[.pointer (some ⟨n, 0, none⟩), .int .i64 k] w fun e w' => e = .returned (.int .i64 (shutN N k).2) ∧ NSt w0 pc A w' n (shutN N k).1 := by
  obtain ⟨F, h1, h2, h3, h4⟩ := h
  exact (shut_any n F N B k w h1 hN hB).mono fun e w' ⟨he, hd⟩ => ⟨he, NSt.done h2 h3 h4 hd⟩
theorem open_S (h : NSt w0 pc A w n N) (hN : OkN N B) (hB : B ≤ 1099511627776) (k b : Int) :
    Calls Try.prog 40 #[.pointer (some ⟨n, 0, none⟩), .int .i64 k, .int .i64 b] w fun e w' => e = .returned (.int .i64 (openN N k b).2) ∧ NSt w0 pc A w' n (openN N k b).1 := by
  obtain ⟨F, h1, h2, h3, h4⟩ := h
  exact (open_any n F N B k b w h1 hN hB).mono fun e w' ⟨he, hd⟩ => ⟨he, NSt.done h2 h3 h4 hd⟩
/-- rows that lie in blocks older than the net's, or newer than the world w. -/
theorem send_S {W : World} (h : NSt w0 pc A w n N) (hkW : Keeps [] w W) (hN : OkN N B) (hB : B ≤ 1099511627776) (k : Int) (pv : Value) (rows : List (Value × List Int)) (hr : ∀ F, (∀ k ∈ F, w0.heap.size ≤ k ∧ k < w.heap.size) → RowsIn W F pv rows) :
    Calls Try.prog 39 #[.pointer (some ⟨n, 0, none⟩), .int .i64 k, pv] W fun e w' => e = .returned (.tuple #[.int .i64 (sendN N k (rows.map (·.2))).2.1, .int .i64 (sendN N k (rows.map (·.2))).2.2]) ∧ NSt w0 pc A w' n (sendN N k (rows.map (·.2))).1 := by
  obtain ⟨F, h1, h2, h3, h4⟩ := h
  exact (send_any n F N B k pv rows W (h1.keeps hkW (by simp)) hN hB (hr F (fun k hk => ⟨h2 k hk, h1.flt k hk⟩))).mono fun e w' ⟨he, hd⟩ => ⟨he, NSt.done h2 (h3.trans hkW (by simp)) (fun r hr => ⟨(h4 r hr).1.keeps hkW (by simp), (h4 r hr).2⟩) hd⟩
theorem write_S (h : NSt w0 pc A w n N) (hN : OkN N B) (hB : B ≤ 1099511627776) (k : Int) (pv : Value) (b : List Int) (hr : CellsIn w0 [] pv (bytesV b)) :
    Calls Try.prog 41 #[.pointer (some ⟨n, 0, none⟩), .int .i64 k, pv] w fun e w' => e = .returned (.tuple #[.int .i64 (writeN N k b).2.1, .int .i64 (writeN N k b).2.2]) ∧ NSt w0 pc A w' n (writeN N k b).1 := by
  obtain ⟨F, h1, h2, h3, h4⟩ := h
  exact (write_any n F N B k pv b w h1 hN hB ((hr.old h2).keeps h3 (by simp))).mono fun e w' ⟨he, hd⟩ => ⟨he, NSt.done h2 h3 h4 hd⟩
/-- what a Read hands out, and what it leaves. -/
def ReadS (w0 : World) (A : List (Value × List Int)) (n : Nat) (r : NS × List Int × Int) (e : Ending) (w' : World) : Prop :=
  ∃ v, e = .returned (.tuple #[v, .int .i64 r.2.2]) ∧ NSt w0 pc ((v, r.2.1) :: A) w' n r.1
theorem read_S (h : NSt w0 pc A w n N) (hN : OkN N B) (hB : B ≤ 1099511627776) (k most : Int) (hm : most ≤ 9223372036854775807) :
    Calls Try.prog 42 #[.pointer (some ⟨n, 0, none⟩), .int .i64 k, .int .i64 most] w (ReadS w0 A n (readN N k most)) := by
  obtain ⟨F, h1, h2, h3, h4⟩ := h
  refine (read_any n F N B k most w h1 hN hB hm).mono fun e w' hd => ?_
  obtain ⟨v, F', he, hr, hl, hk, hrow, ho⟩ := hd
  have hz := h3.size
  refine ⟨v, he, F', hr, fun k hk' => ?_, h3.trans hk (fun g hg => .inr (h2 g hg)), fun r hr' => ?_⟩
  · rcases hl k hk' with e | e
    · exact h2 k e
    · omega
  · rcases List.mem_cons.1 hr' with rfl | hr'
    · exact ⟨hrow, fun k e => (ho k e).2, fun k e => by have := (ho k e).1; omega⟩
    · obtain ⟨g1, g2, g3⟩ := h4 r hr'
      refine ⟨g1.keeps hk (fun k e => g2 k e), fun k e hx => ?_, g3⟩
      rcases hl k hx with e1 | e1
      · exact g2 k e e1
      · have := g1.lt k e
        omega
theorem len_S (h : NSt w0 pc A w n N) : Calls Try.prog 38 #[.pointer (some ⟨n, 0, none⟩)] w fun e w' => e = .returned (.tuple #[.int .i64 N.queue.length, .int .i64 N.nopen]) ∧ NSt w0 pc A w' n N := by
  have h0 := h
  obtain ⟨F, h1, -⟩ := h
  exact (len_any n F N w h1).mono fun e w' ⟨he, hk⟩ => ⟨he, h0.next hk⟩
theorem ready_S (h : NSt w0 pc A w n N) (k : Int) : Calls Try.prog 48 #[.pointer (some ⟨n, 0, none⟩), .int .i64 k] w fun e w' => e = .returned (.tuple #[.bool (readyN N k).1, .bool (readyN N k).2]) ∧ NSt w0 pc A w' n N := by
  have h0 := h
  obtain ⟨F, h1, -⟩ := h
  exact (ready_any n F N k w h1).mono fun e w' ⟨he, hk⟩ => ⟨he, h0.next hk⟩
theorem got_S (h : NSt w0 pc A w n N) (hN : OkN N B) (hB : B ≤ 1099511627776) (k : Int) : Calls Try.prog 43 #[.pointer (some ⟨n, 0, none⟩), .int .i64 k] w fun e w' => ∃ v, e = .returned (.tuple #[v, .bool (gotN N k).2]) ∧ NSt w0 pc ((v, (gotN N k).1) :: A) w' n N := by
  have h0 := h
  obtain ⟨F, h1, -⟩ := h
  refine (got_any n F N B k w h1 hN hB).mono fun e w' hd => ?_
  obtain ⟨v, he, hr, ho, hk⟩ := hd
  exact ⟨v, he, h0.more hk hr ho⟩
theorem taken_S (h : NSt w0 pc A w n N) (hN : OkN N B) (hB : B ≤ 1099511627776) (k : Int) : Calls Try.prog 45 #[.pointer (some ⟨n, 0, none⟩), .int .i64 k] w fun e w' => ∃ v, e = .returned v ∧ NSt w0 pc ((v, takenN N k) :: A) w' n N := by
  have h0 := h
  obtain ⟨F, h1, -⟩ := h
  refine (taken_any n F N B k w h1 hN hB).mono fun e w' hd => ?_
  obtain ⟨v, he, hr, ho, hk⟩ := hd
  exact ⟨v, he, h0.more hk hr ho⟩
theorem close_S {W : World} (h : NSt w0 pc A w n N) (hkW : Keeps [] w W) (hN : OkN N B) (cv : Value) (l : List Int) (hr : ∀ F, (∀ k ∈ F, w0.heap.size ≤ k ∧ k < w.heap.size) → CellsIn W F cv (l.map (.int .i64))) (hl : l.length ≤ 1099511627776) :
    Calls Try.prog 49 #[.pointer (some ⟨n, 0, none⟩), cv] W fun e w' => e = .returned (.int .i64 (closeN N l).2) ∧ NSt w0 pc A w' n (closeN N l).1 := by
  obtain ⟨F, h1, h2, h3, h4⟩ := h
  exact (close_any n F N B cv l W (h1.keeps hkW (by simp)) hN (hr F (fun k hk => ⟨h2 k hk, h1.flt k hk⟩)) hl).mono fun e w' ⟨he, hd⟩ => ⟨he, NSt.done h2 (h3.trans hkW (by simp)) (fun r hr => ⟨(h4 r hr).1.keeps hkW (by simp), (h4 r hr).2⟩) hd⟩
theorem state_S (h : NSt w0 pc A w n N) (k : Int) : Calls Try.prog 65 #[.pointer (some ⟨n, 0, none⟩), .int .i64 k] w fun e w' => e = .returned (.agg #[.bool (stateN N k).1, .bool (stateN N k).2.1, .bool (stateN N k).2.2.1, .int .i64 (stateN N k).2.2.2]) ∧ NSt w0 pc A w' n N := by
  have h0 := h
  obtain ⟨F, h1, -⟩ := h
  exact (state_any n F N k w h1).mono fun e w' ⟨he, hk⟩ => ⟨he, h0.next hk⟩
theorem marks_S (h : NSt w0 pc A w n N) (k : Int) : Calls Try.prog 63 #[.pointer (some ⟨n, 0, none⟩), .int .i64 k] w fun e w' => e = .returned (.tuple #[.int .i64 (marksN N k).1, .int .i64 (marksN N k).2]) ∧ NSt w0 pc A w' n N := by
  have h0 := h
  obtain ⟨F, h1, -⟩ := h
  exact (marks_any n F N k w h1).mono fun e w' ⟨he, hk⟩ => ⟨he, h0.next hk⟩
end
end Go.Proofs.Ytkeffebcmajhmaa
