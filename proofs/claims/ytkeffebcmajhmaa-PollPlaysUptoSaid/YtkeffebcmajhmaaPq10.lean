/- The net's laws: a net that has come into being behind some world; 'same', 'known' by contract. -/
import Derived.Test.YtkeffebcmajhmaaPq09
import Derived.Test.YtkeffebcmajhmaaPq01
namespace Go.Proofs.Ytkeffebcmajhmaa
open Go.RowKit
set_option linter.unusedVariables false
theorem take_eq_snoc {xs ys : List Int} {k : Nat} (h : xs.take k = ys.take k) {x : Int} (hx : xs[k]? = some x) (hy : ys[k]? = some x) : xs.take (k + 1) = ys.take (k + 1) := by
  rw [List.take_add_one, List.take_add_one, h, hx, hy]
/-- Two rows of bytes: are they the same? -/
def sameB (xs ys : List Int) : Bool := decide (xs = ys)
theorem sameB_self (xs : List Int) : sameB xs xs = true := by simp [sameB]
theorem nsame_any (a b : Value) (xs ys : List Int) (w : World) (ha : CellsIn w [] a (bytesV xs)) (hb : CellsIn w [] b (bytesV ys)) :
    Calls Try.prog 44 #[a, b] w fun e w' => e = .returned (.bool (sameB xs ys)) ∧ Keeps [] w w' := by
  have HA := hid ha
  have HB := hid hb
  obtain ⟨A, ca, rfl, ha1, ha2⟩ := ha.shape
  obtain ⟨B, cb, rfl, hb1, hb2⟩ := hb.shape
  clear ha hb
  simp only [bytesV, List.length_map] at HA HB ha1 hb1 ⊢
  have hxl : xs.length ≤ 9223372036854775807 := by omega
  have hyl : ys.length ≤ 9223372036854775807 := by omega
  clear ha1 ha2 hb1 hb2
  by_cases hl : xs.length = ys.length
  · have hlb : (((xs.length : Nat) : Int) != (ys.length : Nat)) = false := by simp [hl]
    have HL := hid hl
    clear hl
    go_enter Try.func44, Try.ntmps44
    go_wp2
    go_loopw [5] (fun i wr => ∃ k : Nat, k ≤ xs.length ∧ i = .int .i64 k ∧ xs.take k = ys.take k ∧ Keeps [] w wr) (fun i _ => xs.length - (intOf i).toNat)
    case atStart => exact ⟨0, Nat.zero_le _, rfl, by simp, Keeps.refl _ _⟩
    case round =>
      obtain ⟨k, hk, rfl, ht, hkp⟩ := hrel
      have HT := hid ht
      clear ht
      by_cases hlt : k < xs.length
      · have hlt2 : k < ys.length := by rw [← HL.out]; exact hlt
        obtain ⟨x, hx⟩ : ∃ x, xs[k]? = some x := ⟨xs[k], by simp [hlt]⟩
        obtain ⟨y, hy⟩ : ∃ y, ys[k]? = some y := ⟨ys[k], by simp [hlt2]⟩
        obtain ⟨b1, o1, rfl, -, hc1⟩ := (HA.out.keeps hkp (by simp)).at_ (by simp; omega)
        obtain ⟨b2, o2, rfl, -, hc2⟩ := (HB.out.keeps hkp (by simp)).at_ (by simp; omega)
        have e1 := hc1 k (.int .u8 x) (by simp [hx])
        have e2 := hc2 k (.int .u8 y) (by simp [hy])
        clear hc1 hc2
        have HX := hid hx
        have HY := hid hy
        clear hx hy
        have i1 : (k : Int) < xs.length := by omega
        have i2 : (k : Int) < ys.length := by omega
        by_cases hxy : x = y
        · have hne : (x != y) = false := by simp [hxy]
          have hxy := hid hxy
          go_wp2_with fail
          go_quiet (fail)
          go_wp2
          go_roundw
          case rel =>
            have h1 := HX.out
            rw [hxy.out] at h1
            exact ⟨k + 1, by omega, by go_num, take_eq_snoc HT.out h1 HY.out, hkp.drewN _⟩
          case measure => simp [intOf]; omega
        · have hne : (x != y) = true := by simp [hxy]
          have HF : Hid (sameB xs ys = false) := by
            unfold sameB
            refine decide_eq_false fun he => hxy ?_
            have h1 := HX.out
            rw [he, HY.out] at h1
            injection h1 with h1
            exact h1.symm
          clear hxy
          go_wp2_with fail
          go_quiet (fail)
          go_wp2
          go_ret
          exact ⟨by rw [HF.out]; rfl, hkp.drewN _⟩
      · have hkl : k = xs.length := by omega
        subst hkl
        have HF : Hid (sameB xs ys = true) := by
          have h1 := HT.out
          rw [List.take_length, HL.out, List.take_length] at h1
          rw [h1]
          exact sameB_self _
        go_wp2
        go_ret
        exact ⟨by rw [HF.out]; rfl, hkp⟩
  · have hlb : (((xs.length : Nat) : Int) != (ys.length : Nat)) = true := by simp; omega
    have HF : Hid (sameB xs ys = false) := by
      unfold sameB
      exact decide_eq_false fun he => hl (by rw [he])
    clear hl
    go_enter Try.func44, Try.ntmps44
    go_wp2
    go_ret
    exact ⟨by rw [HF.out]; rfl, Keeps.refl _ _⟩
set_option maxHeartbeats 400000 in

/-- A net whose blocks are all newer than the world w0; rows of bytes that lie aside of it. -/
def NSt (w0 : World) (c : Cfg) (A : List (Value × List Int)) (w : World) (n : Nat) (N : NS) : Prop :=
  ∃ F, NRep c w n F N ∧ (∀ k ∈ F, w0.heap.size ≤ k) ∧ Keeps [] w0 w ∧ ∀ r ∈ A, Row w 5 1 r.1 r.2.length (bytesV r.2) ∧ (∀ k, r.1.ownBlock = some k → k ∉ F) ∧ ∀ k, r.1.ownBlock = some k → w0.heap.size ≤ k
section
variable {w0 w w' : World} {c : Cfg} {A A' : List (Value × List Int)} {n : Nat} {N N' : NS} {F : List Nat} {B : Int}
theorem NSt.keepsW (h : NSt w0 c A w n N) : Keeps [] w0 w := by
  obtain ⟨F, h1, h2, h3, h4⟩ := h
  exact h3
theorem NSt.row (h : NSt w0 c A w n N) {r : Value × List Int} (hr : r ∈ A) : Row w 5 1 r.1 r.2.length (bytesV r.2) := by
  obtain ⟨F, h1, h2, h3, h4⟩ := h
  exact (h4 r hr).1
theorem NSt.less (h : NSt w0 c A w n N) (hA : ∀ r ∈ A', r ∈ A) : NSt w0 c A' w n N := by
  obtain ⟨F, h1, h2, h3, h4⟩ := h
  exact ⟨F, h1, h2, h3, fun r hr => h4 r (hA r hr)⟩
theorem NSt.next (h : NSt w0 c A w n N) (hk : Keeps [] w w') : NSt w0 c A w' n N := by
  obtain ⟨F, h1, h2, h3, h4⟩ := h
  exact ⟨F, h1.keeps hk (by simp), h2, h3.trans hk (by simp), fun r hr => ⟨(h4 r hr).1.keeps hk (by simp), (h4 r hr).2⟩⟩
/-- a new row lies aside. -/
theorem NSt.more (h : NSt w0 c A w n N) (hk : Keeps [] w w') {v : Value} {l : List Int} (hv : Row w' 5 1 v l.length (bytesV l)) (ho : ∀ k, v.ownBlock = some k → w.heap.size ≤ k) : NSt w0 c ((v, l) :: A) w' n N := by
  obtain ⟨F, h1, h2, h3, h4⟩ := h
  refine ⟨F, h1.keeps hk (by simp), h2, h3.trans hk (by simp), fun r hr => ?_⟩
  rcases List.mem_cons.1 hr with rfl | hr
  · exact ⟨hv, fun k e hx => by have := h1.flt k hx; have := ho k e; omega, fun k e => by have := ho k e; have := h3.size; omega⟩
  · exact ⟨(h4 r hr).1.keeps hk (by simp), (h4 r hr).2⟩
/-- a row aside has been written on; the others are let go. -/
theorem NSt.swap {v v' : Value} {l l' : List Int} (h : NSt w0 c A w n N) (hm : (v, l) ∈ A) (hk : Keeps v.ownBlock.toList w w') (hv : Row w' 5 1 v' l'.length (bytesV l')) (ho : ∀ k, v'.ownBlock = some k → v.ownBlock = some k ∨ w.heap.size ≤ k) : NSt w0 c [(v', l')] w' n N := by
  obtain ⟨F, h1, h2, h3, h4⟩ := h
  obtain ⟨g1, g2, g3⟩ := h4 _ hm
  refine ⟨F, h1.keeps hk (fun k hF hx => g2 k (by simpa using hx) hF), h2, h3.trans hk (fun g hg => .inr (g3 g (by simpa using hg))), fun r hr => ?_⟩
  simp at hr
  subst hr
  refine ⟨hv, fun k e hx => ?_, fun k e => ?_⟩
  · rcases ho k e with e1 | e1
    · exact g2 k e1 hx
    · have := h1.flt k hx
      omega
  · rcases ho k e with e1 | e1
    · exact g3 k e1
    · have := h3.size
      omega
theorem NSt.done (h1 : ∀ k ∈ F, w0.heap.size ≤ k) (h3 : Keeps [] w0 w) (h4 : ∀ r ∈ A, Row w 5 1 r.1 r.2.length (bytesV r.2) ∧ (∀ k, r.1.ownBlock = some k → k ∉ F) ∧ ∀ k, r.1.ownBlock = some k → w0.heap.size ≤ k) (hd : NDone c w n F N' w') : NSt w0 c A w' n N' := by
  obtain ⟨⟨F', h5, h6⟩, h7⟩ := hd
  refine ⟨F', h5, fun k hk => ?_, h3.trans h7 (fun g hg => .inr (h1 g hg)), fun r hr => ?_⟩
  · rcases h6 k hk with e | e
    · exact h1 k e
    · have := h3.size
      omega
  · obtain ⟨g1, g2, g3⟩ := h4 r hr
    refine ⟨g1.keeps h7 (fun k e => g2 k e), fun k e hx => ?_, g3⟩
    rcases h6 k hx with e1 | e1
    · exact g2 k e e1
    · have := g1.lt k e
      omega
theorem nnew_S (b : Int) (w0 w : World) (hk : Keeps [] w0 w) (h1 : 1 ≤ b) (h2 : b ≤ 64) :
    Calls Try.prog 34 #[.int .i64 b] w fun e w' => ∃ n, e = .returned (.tuple #[.pointer (some ⟨n, 0, none⟩), .int .i64 0]) ∧ NSt w0 pc [] w' n (newN b) :=
  (nnew_ok b w h1 h2).mono fun e w' ⟨he, hr, hk'⟩ => ⟨_, he, _, hr, by simpa using hk.size, hk.trans hk' (by simp), by simp⟩
theorem connect_S (h : NSt w0 pc A w n N) (hN : OkN N B) (hB : B ≤ 1099511627776) (peer : Int) :
    Calls Try.prog 37 #[.pointer (some ⟨n, 0, none⟩), .int .i64 peer] w fun e w' => e = .returned (.tuple #[.int .i64 (connectN N peer).2.1, .int .i64 (connectN N peer).2.2]) ∧ NSt w0 pc A w' n (connectN N peer).1 := by
  obtain ⟨F, h1, h2, h3, h4⟩ := h
  exact (connect_any n F N B peer w h1 hN hB).mono fun e w' ⟨he, hd⟩ => ⟨he, NSt.done h2 h3 h4 hd⟩
theorem inject_S (h : NSt w0 pc A w n N) (k : Int) (hk0 : -9223372036854775808 ≤ k) (hk1 : k ≤ 9223372036854775807) :
    Calls Try.prog 35 #[.pointer (some ⟨n, 0, none⟩), .int .i64 k] w fun e w' => e = .returned (.tuple #[]) ∧ NSt w0 pc A w' n (injectN N k) := by
  obtain ⟨F, h1, h2, h3, h4⟩ := h
  exact (inject_any n F N k w h1 hk0 hk1).mono fun e w' ⟨he, hd⟩ => ⟨he, NSt.done h2 h3 h4 hd⟩
theorem accept_S (h : NSt w0 pc A w n N) (hN : OkN N B) (hB : B ≤ 1099511627776) :
    Calls Try.prog 36 #[.pointer (some ⟨n, 0, none⟩)] w fun e w' => e = .returned (.tuple #[.int .i64 (acceptN N).2.1, .int .i64 (acceptN N).2.2.1, .int .i64 (acceptN N).2.2.2]) ∧ NSt w0 pc A w' n (acceptN N).1 := by
  obtain ⟨F, h1, h2, h3, h4⟩ := h
  exact (accept_any n F N B w h1 hN hB).mono fun e w' ⟨he, hd⟩ => ⟨he, NSt.done h2 h3 h4 hd⟩
theorem half_S (h : NSt w0 pc A w n N) (hN : OkN N B) (hB : B ≤ 1099511627776) (k : Int) :
    Calls Try.prog 46 #[.pointer (some ⟨n, 0, none⟩), .int .i64 k] w fun e w' => e = .returned (.int .i64 (halfN N k).2) ∧ NSt w0 pc A w' n (halfN N k).1 := by
  obtain ⟨F, h1, h2, h3, h4⟩ := h
  exact (half_any n F N B k w h1 hN hB).mono fun e w' ⟨he, hd⟩ => ⟨he, NSt.done h2 h3 h4 hd⟩
theorem reset_S (h : NSt w0 pc A w n N) (hN : OkN N B) (hB : B ≤ 1099511627776) (k : Int) :
    Calls Try.prog 47 #[.pointer (some ⟨n, 0, none⟩), .int .i64 k] w fun e w' => e = .returned (.int .i64 (resetN N k).2) ∧ NSt w0 pc A w' n (resetN N k).1 := by
  obtain ⟨F, h1, h2, h3, h4⟩ := h
  exact (reset_any n F N B k w h1 hN hB).mono fun e w' ⟨he, hd⟩ => ⟨he, NSt.done h2 h3 h4 hd⟩
theorem shut_S (h : NSt w0 pc A w n N) (hN : OkN N B) (hB : B ≤ 1099511627776) (k : Int) :
    Calls Try.prog 64 #[.pointer (some ⟨n, 0, none⟩), .int .i64 k] w fun e w' => e = .returned (.int .i64 (shutN N k).2) ∧ NSt w0 pc A w' n (shutN N k).1 := by
  obtain ⟨F, h1, h2, h3, h4⟩ := h
  exact (shut_any n F N B k w h1 hN hB).mono fun e w' ⟨he, hd⟩ => ⟨he, NSt.done h2 h3 h4 hd⟩
theorem open_S (h : NSt w0 pc A w n N) (hN : OkN N B) (hB : B ≤ 1099511627776) (k b : Int) :
    Calls Try.prog 40 #[.pointer (some ⟨n, 0, none⟩), .int .i64 k, .int .i64 b] w fun e w' => e = .returned (.int .i64 (openN N k b).2) ∧ NSt w0 pc A w' n (openN N k b).1 := by
  obtain ⟨F, h1, h2, h3, h4⟩ := h
  exact (open_any n F N B k b w h1 hN hB).mono fun e w' ⟨he, hd⟩ => ⟨he, NSt.done h2 h3 h4 hd⟩
/-- rows that lie in blocks older than the net's, or newer than the world w. -/
theorem send_S {W : World} (h : NSt w0 pc A w n N) (hkW : Keeps [] w W) (hN : OkN N B) (hB : B ≤ 1099511627776) (k : Int) (pv : Value) (rows : List (Value × List Int)) (hr : ∀ F, (∀ k ∈ F, w0.heap.size ≤ k ∧ k < w.heap.size) → RowsIn W F pv rows) :
    Calls Try.prog 39 #[.pointer (some ⟨n, 0, none⟩), .int .i64 k, pv] W fun e w' => e = .returned (.tuple #[.int .i64 (sendN N k (rows.map (·.2))).2.1, .int .i64 (sendN N k (rows.map (·.2))).2.2]) ∧ NSt w0 pc A w' n (sendN N k (rows.map (·.2))).1 := by
  obtain ⟨F, h1, h2, h3, h4⟩ := h
  exact (send_any n F N B k pv rows W (h1.keeps hkW (by simp)) hN hB (hr F (fun k hk => ⟨h2 k hk, h1.flt k hk⟩))).mono fun e w' ⟨he, hd⟩ => ⟨he, NSt.done h2 (h3.trans hkW (by simp)) (fun r hr => ⟨(h4 r hr).1.keeps hkW (by simp), (h4 r hr).2⟩) hd⟩
theorem write_S (h : NSt w0 pc A w n N) (hN : OkN N B) (hB : B ≤ 1099511627776) (k : Int) (pv : Value) (b : List Int) (hr : CellsIn w0 [] pv (bytesV b)) :
    Calls Try.prog 41 #[.pointer (some ⟨n, 0, none⟩), .int .i64 k, pv] w fun e w' => e = .returned (.tuple #[.int .i64 (writeN N k b).2.1, .int .i64 (writeN N k b).2.2]) ∧ NSt w0 pc A w' n (writeN N k b).1 := by
  obtain ⟨F, h1, h2, h3, h4⟩ := h
  exact (write_any n F N B k pv b w h1 hN hB ((hr.old h2).keeps h3 (by simp))).mono fun e w' ⟨he, hd⟩ => ⟨he, NSt.done h2 h3 h4 hd⟩
/-- what a Read hands out, and what it leaves. -/
def ReadS (w0 : World) (A : List (Value × List Int)) (n : Nat) (r : NS × List Int × Int) (e : Ending) (w' : World) : Prop :=
  ∃ v, e = .returned (.tuple #[v, .int .i64 r.2.2]) ∧ NSt w0 pc ((v, r.2.1) :: A) w' n r.1
theorem read_S (h : NSt w0 pc A w n N) (hN : OkN N B) (hB : B ≤ 1099511627776) (k most : Int) (hm : most ≤ 9223372036854775807) :
    Calls Try.prog 42 #[.pointer (some ⟨n, 0, none⟩), .int .i64 k, .int .i64 most] w (ReadS w0 A n (readN N k most)) := by
  obtain ⟨F, h1, h2, h3, h4⟩ := h
  refine (read_any n F N B k most w h1 hN hB hm).mono fun e w' hd => ?_
  obtain ⟨v, F', he, hr, hl, hk, hrow, ho⟩ := hd
  have hz := h3.size
  refine ⟨v, he, F', hr, fun k hk' => ?_, h3.trans hk (fun g hg => .inr (h2 g hg)), fun r hr' => ?_⟩
  · rcases hl k hk' with e | e
    · exact h2 k e
    · omega
  · rcases List.mem_cons.1 hr' with rfl | hr'
    · exact ⟨hrow, fun k e => (ho k e).2, fun k e => by have := (ho k e).1; omega⟩
    · obtain ⟨g1, g2, g3⟩ := h4 r hr'
      refine ⟨g1.keeps hk (fun k e => g2 k e), fun k e hx => ?_, g3⟩
      rcases hl k hx with e1 | e1
      · exact g2 k e e1
      · have := g1.lt k e
        omega
theorem len_S (h : NSt w0 pc A w n N) : Calls Try.prog 38 #[.pointer (some ⟨n, 0, none⟩)] w fun e w' => e = .returned (.tuple #[.int .i64 N.queue.length, .int .i64 N.nopen]) ∧ NSt w0 pc A w' n N := by
  have h0 := h
  obtain ⟨F, h1, -⟩ := h
  exact (len_any n F N w h1).mono fun e w' ⟨he, hk⟩ => ⟨he, h0.next hk⟩
theorem ready_S (h : NSt w0 pc A w n N) (k : Int) : Calls Try.prog 48 #[.pointer (some ⟨n, 0, none⟩), .int .i64 k] w fun e w' => e = .returned (.tuple #[.bool (readyN N k).1, .bool (readyN N k).2]) ∧ NSt w0 pc A w' n N := by
  have h0 := h
  obtain ⟨F, h1, -⟩ := h
  exact (ready_any n F N k w h1).mono fun e w' ⟨he, hk⟩ => ⟨he, h0.next hk⟩
theorem got_S (h : NSt w0 pc A w n N) (hN : OkN N B) (hB : B ≤ 1099511627776) (k : Int) : Calls Try.prog 43 #[.pointer (some ⟨n, 0, none⟩), .int .i64 k] w fun e w' => ∃ v, e = .returned (.tuple #[v, .bool (gotN N k).2]) ∧ NSt w0 pc ((v, (gotN N k).1) :: A) w' n N := by
  have h0 := h
  obtain ⟨F, h1, -⟩ := h
  refine (got_any n F N B k w h1 hN hB).mono fun e w' hd => ?_
  obtain ⟨v, he, hr, ho, hk⟩ := hd
  exact ⟨v, he, h0.more hk hr ho⟩
theorem taken_S (h : NSt w0 pc A w n N) (hN : OkN N B) (hB : B ≤ 1099511627776) (k : Int) : Calls Try.prog 45 #[.pointer (some ⟨n, 0, none⟩), .int .i64 k] w fun e w' => ∃ v, e = .returned v ∧ NSt w0 pc ((v, takenN N k) :: A) w' n N := by
  have h0 := h
  obtain ⟨F, h1, -⟩ := h
  refine (taken_any n F N B k w h1 hN hB).mono fun e w' hd => ?_
  obtain ⟨v, he, hr, ho, hk⟩ := hd
  exact ⟨v, he, h0.more hk hr ho⟩
theorem close_S {W : World} (h : NSt w0 pc A w n N) (hkW : Keeps [] w W) (hN : OkN N B) (cv : Value) (l : List Int) (hr : ∀ F, (∀ k ∈ F, w0.heap.size ≤ k ∧ k < w.heap.size) → CellsIn W F cv (l.map (.int .i64))) (hl : l.length ≤ 1099511627776) :
    Calls Try.prog 49 #[.pointer (some ⟨n, 0, none⟩), cv] W fun e w' => e = .returned (.int .i64 (closeN N l).2) ∧ NSt w0 pc A w' n (closeN N l).1 := by
  obtain ⟨F, h1, h2, h3, h4⟩ := h
  exact (close_any n F N B cv l W (h1.keeps hkW (by simp)) hN (hr F (fun k hk => ⟨h2 k hk, h1.flt k hk⟩)) hl).mono fun e w' ⟨he, hd⟩ => ⟨he, NSt.done h2 (h3.trans hkW (by simp)) (fun r hr => ⟨(h4 r hr).1.keeps hkW (by simp), (h4 r hr).2⟩) hd⟩
theorem state_S (h : NSt w0 pc A w n N) (k : Int) : Calls Try.prog 65 #[.pointer (some ⟨n, 0, none⟩), .int .i64 k] w fun e w' => e = .returned (.agg #[.bool (stateN N k).1, .bool (stateN N k).2.1, .bool (stateN N k).2.2.1, .int .i64 (stateN N k).2.2.2]) ∧ NSt w0 pc A w' n N := by
  have h0 := h
  obtain ⟨F, h1, -⟩ := h
  exact (state_any n F N k w h1).mono fun e w' ⟨he, hk⟩ => ⟨he, h0.next hk⟩
theorem marks_S (h : NSt w0 pc A w n N) (k : Int) : Calls Try.prog 63 #[.pointer (some ⟨n, 0, none⟩), .int .i64 k] w fun e w' => e = .returned (.tuple #[.int .i64 (marksN N k).1, .int .i64 (marksN N k).2]) ∧ NSt w0 pc A w' n N := by
  have h0 := h
  obtain ⟨F, h1, -⟩ := h
  exact (marks_any n F N k w h1).mono fun e w' ⟨he, hk⟩ => ⟨he, h0.next hk⟩
end
end Go.Proofs.Ytkeffebcmajhmaa
/- The program's net: Stop by contract. -/
namespace Go.Proofs.Ytkeffebcmajhmaa
open Go.RowKit
set_option linter.unusedVariables false
theorem NAt.own_ {c : Cfg} {w w' : World} {n : Nat} {F : List Nat} {own : Nat → Nat} {ps : List Nat} {vc vq : Value} {N N' : NS} (h : NAt c w n F own ps vc vq N) (hN : N'.cs = N.cs) (hQ : N'.queue = N.queue) (hk : Keeps [n] w w')
    (hn : Blk w' n c.NT (c.nlay N' vc vq)) : NAt c w' n F own ps vc vq N' := by
  have hnot : ∀ k, own k ≠ 1 → k ∉ [n] := fun k a hx => by
    simp at hx
    subst hx
    exact a h.tn
  refine ⟨h.ftag, fun k e => Nat.lt_of_lt_of_le (h.flt k e) hk.size, h.tn, hn, ?_, h.oc, ?_, h.oq, ?_, ?_⟩
  · rw [hN]
    exact h.rc.keeps hk (fun k e => hnot k (by rw [h.oc k e]; omega))
  · rw [hQ]
    exact h.rq.keeps hk (fun k e => hnot k (by rw [h.oq k e]; omega))
  · rw [hN, h.len]
  · intro j q e hq he
    rw [hN] at he
    obtain ⟨ui, uo, ut, hu⟩ := h.at_ j q e hq he
    exact ⟨ui, uo, ut, hu.keeps hk (fun k a b => hnot k (by omega))⟩
def stops (N : NS) (l : List Nat) : NS := l.foldl stop1 N
theorem stop1_queue (N : NS) (q : Nat) : (stop1 N q).queue = N.queue := by
  unfold stop1
  split <;> rfl
theorem stop1_len (N : NS) (q : Nat) : (stop1 N q).cs.length = N.cs.length := by
  unfold stop1
  split
  · rfl
  · simp [NS.upd]
theorem stops_queue (l : List Nat) : ∀ N, (stops N l).queue = N.queue := by
  induction l with
  | nil => intro N; rfl
  | cons a l ih => intro N; show (stops (stop1 N a) l).queue = _; rw [ih, stop1_queue]
theorem stops_len (l : List Nat) : ∀ N, (stops N l).cs.length = N.cs.length := by
  induction l with
  | nil => intro N; rfl
  | cons a l ih => intro N; show (stops (stop1 N a) l).cs.length = _; rw [ih, stop1_len]
theorem stops_snoc (l : List Nat) (q : Nat) (N : NS) : stops N (l ++ [q]) = stop1 (stops N l) q := by simp [stops]
/-- sound, but for who waits. -/
structure OkW (N : NS) (B : Int) : Prop where
  b0 : 1 ≤ N.backlog
  b1 : N.backlog ≤ 64
  cl : N.cs.length ≤ 65536
  f0 : 0 ≤ N.fails
  f1 : N.fails ≤ 9223372036854775807
  m0 : 0 ≤ N.marks
  m1 : N.marks ≤ B
  op : N.nopen = (N.cs.countP (·.opn) : Nat)
  cn : ∀ d ∈ N.cs, CnOk d B
theorem okW_stop1 {N : NS} {B : Int} (h : OkW N B) (q : Nat) : OkW (stop1 N q) B := by
  unfold stop1
  split
  · exact h
  · rename_i d hd
    have hok := h.cn d (List.mem_of_getElem? hd)
    refine ⟨h.b0, h.b1, by simpa [NS.upd] using h.cl, h.f0, h.f1, h.m0, h.m1, ?_, fun e he => ?_⟩
    · simp only [NS.upd]
      rw [countP_set (d' := { d with broken := true, inn := [], window := 0, waits := false }) hd rfl]
      exact h.op
    · rcases mem_set he with he | rfl
      · exact h.cn e he
      · exact ⟨by simp, by simp, by simp, hok.r0, hok.r1, hok.s0, hok.s1, hok.got, hok.told⟩
theorem okW_stops {B : Int} (l : List Nat) : ∀ N, OkW N B → OkW (stops N l) B := by
  induction l with
  | nil => intro N h; exact h
  | cons a l ih => intro N h; exact ih _ (okW_stop1 h a)
theorem okN_stop {N : NS} {B : Int} (h : OkN N B) : OkN (stopN N) B := by
  have h1 : OkW { N with stopped := true } B := ⟨h.b0, h.b1, h.cl, h.f0, h.f1, h.m0, h.m1, h.op, h.cn⟩
  have h2 := okW_stops N.queue _ h1
  unfold stopN
  exact ⟨h2.b0, h2.b1, by simp; have := h2.b0; unfold stops at this; omega, by simp, by simp, h2.cl, h2.f0, h2.f1, h2.m0, h2.m1, h2.op, h2.cn⟩
set_option maxHeartbeats 1000000 in
theorem stop_any (n : Nat) (F : List Nat) (N : NS) (B : Int) (w : World) (h : NRep pc w n F N) (hN : OkN N B) :
    Calls Try.prog 62 #[.pointer (some ⟨n, 0, none⟩)] w fun e w' => e = .returned (.tuple #[]) ∧ NDone pc w n F (stopN N) w' := by
  obtain ⟨own, ps, vc, vq, h⟩ := h
  have H := hid h
  have HOK := hid hN
  have hnF : n ∈ F := h.ftag n (by rw [h.tn]; omega)
  obtain ⟨A, cap, hvq, hq1, hqm, -⟩ := h.rq.form
  have c2 := h.blk.cell 2
  have c3 := h.blk.cell 3
  have f3 := h.blk.frozen 3
  simp [pc] at c2 c3
  rw [hvq] at c2
  have HS0 : Hid (NAt pc (w.setCell ⟨n, 3, none⟩ (.bool true)) n F own ps vc vq { N with stopped := true }) := by
    refine hid (h.own_ rfl rfl ((Keeps.refl [n] w).setCell (p := ⟨n, 3, none⟩) (.inl (by simp)) _) ?_)
    simpa [pc] using h.blk.set_ 3 (.bool true)
  obtain ⟨l, hl⟩ : ∃ l, N.queue.length = l := ⟨_, rfl⟩
  have hl64 : l ≤ 64 := by
    have := hN.ql
    have := hN.b1
    omega
  rw [hl] at c2 hvq
  have HVQ := hid hvq
  have HL := hid hl
  clear h hN hvq hl
  go_enter Try.func62, Try.ntmps62
  go_wp2_with fail
  go_loopw [14] (fun jv wr => ∃ k : Nat, k ≤ l ∧ jv = .int .i64 k ∧ NAt pc wr n F own ps vc vq (stops { N with stopped := true } (N.queue.take k)) ∧ Keeps F w wr) (fun jv _ => l - (intOf jv).toNat)
  case atStart => exact ⟨0, Nat.zero_le _, rfl, by simpa [stops] using HS0.out, (Keeps.refl F w).setCell (p := ⟨n, 3, none⟩) (.inl hnF) _⟩
  case round =>
    clear HS0
    obtain ⟨k, hk, rfl, hS, hkp⟩ := hrel
    have HS := hid hS
    have HKP := hid hkp
    clear hS hkp
    obtain ⟨NK, hNK⟩ : ∃ M, stops { N with stopped := true } (N.queue.take k) = M := ⟨_, rfl⟩
    have hqq : NK.queue = N.queue := by rw [← hNK, stops_queue]
    have hll : NK.cs.length = N.cs.length := by rw [← hNK, stops_len]
    rw [hNK] at HS
    have HNK := hid hNK
    have HQQ := hid hqq
    have HLL := hid hll
    clear hNK hqq hll
    by_cases hlt : k < l
    · obtain ⟨q, hq⟩ : ∃ q, N.queue[k]? = some q := ⟨N.queue[k]'(by rw [HL.out]; exact hlt), List.getElem?_eq_getElem _⟩
      obtain ⟨d0, hd0, -⟩ := HOK.out.qw q (List.mem_of_getElem? hq)
      have hqlt : q < NK.cs.length := by rw [HLL.out]; exact (List.getElem?_eq_some_iff.1 hd0).1
      obtain ⟨d, hd⟩ : ∃ d, NK.cs[q]? = some d := ⟨NK.cs[q], List.getElem?_eq_getElem hqlt⟩
      obtain ⟨g, qo, qc, hgq, -, -, hqcell, -, -⟩ := HS.out.rq.open_ (by rw [HQQ.out, HL.out]; omega)
      have hA : A = some ⟨g, qo, none⟩ := by
        have := HVQ.out
        rw [this] at hgq
        injection hgq
      subst hA
      have q0 := hqcell k (.int .i64 q) (by rw [HQQ.out]; simp [natsV, hq])
      obtain ⟨p, b, off, ccap, hp, hvc, -, hle, hccm, hcb, hbn, vi, vo, vt, hc⟩ := HS.out.conn hd
      subst hvc
      have c1 := HS.out.blk.cell 1
      simp [pc] at c1
      have hki : (k : Int) < l := by omega
      have hqi : (q : Int) < NK.cs.length := by omega
      have hpT : Blk wr p pc.T _ := hc.1
      have hbp : b ≠ p := fun e => by
        have a1 := HS.out.oc b (by simp [Value.ownBlock])
        have a2 := hc.2.1
        rw [← e, a1] at a2
        omega
      have hnp : n ≠ p := fun e => by
        have a1 := HS.out.tn
        have a2 := hc.2.1
        rw [e, a2] at a1
        omega
      have HC := hid hc
      have HP := hid hp
      have HD := hid hd
      have HNX : Hid (N.queue.take (k + 1) = N.queue.take k ++ [q]) := by
        rw [List.take_add_one, hq]
        exact hid rfl
      have hpF : p ∈ F := HS.out.ftag p (by rw [hc.2.1]; omega)
      clear hqcell hgq hq hd0 hd hp hc hqlt
      go_wp2_with (go_at_call 77; refine (breaks_any p _ _ HC.out.1 (by simp [pc])).mono ?_; rintro e w2 ⟨rfl, hw2⟩; have hb2 := ((HC.out.1.set_ 2 (.bool true)).set_ 7 (.slice none 0 0)).set_ 8 (.int .i64 0); have hk2 : Keeps [p] wr w2 := (by rw [hw2]; exact (((Keeps.refl [p] wr).setCell (p := ⟨p, 2, none⟩) (.inl (by simp)) _).setCell (p := ⟨p, 7, none⟩) (.inl (by simp)) _).setCell (p := ⟨p, 8, none⟩) (.inl (by simp)) _); rw [← hw2] at hb2; have e1 := cell_keep hk2 (by simpa using hnp) c1; have eb := cell_keep hk2 (by simpa using hbp) hcb; have g0 := hb2.cell 0; have k0 := hb2.frozen 0; simp [pc] at g0; have HB2 := hid hb2; have HK2 := hid hk2; clear hb2 hk2 hw2)
      go_roundw
      case rel =>
        have hkk : Keeps [p] wr (w2.setCell ⟨p, 0, none⟩ (.bool false)) := HK2.out.setCell (p := ⟨p, 0, none⟩) (.inl (by simp)) _
        refine ⟨k + 1, by omega, by go_num, ?_, HKP.out.trans hkk (fun g hg => .inl (by simp at hg; subst hg; exact hpF))⟩
        rw [HNX.out, stops_snoc, HNK.out]
        unfold stop1
        rw [HD.out]
        simp only
        have a := HC.out.2.1
        refine HS.out.fix (d' := { d with broken := true, inn := [], window := 0, waits := false }) (vi := .slice none 0 0) (vo := vo) (vt := vt) HP.out rfl rfl hkk (by simp) ?_ ⟨?_, a, ⟨Row.nil _ _ _, by simp [Value.ownBlock]⟩, ?_, ?_⟩
        · exact HS.out.blk.keeps hkk (by simpa using hnp)
        · simpa [pc] using HB2.out.set_ 0 (.bool false)
        · exact HC.out.2.2.2.1.keeps hkk (fun k hk hx => by simp at hx; subst hx; omega)
        · exact HC.out.2.2.2.2.keeps hkk (fun k hk hx => by simp at hx; subst hx; omega)
      case measure => simp [intOf] <;> omega
    · have hkl : k = l := by omega
      subst hkl
      have c2' := HS.out.blk.cell 2
      have f2' := HS.out.blk.frozen 2
      simp [pc] at c2'
      go_wp2_with fail
      go_end0
      have hkn : Keeps [n] wr (wr.setCell ⟨n, 2, none⟩ (.slice none 0 0)) := (Keeps.refl [n] wr).setCell (p := ⟨n, 2, none⟩) (.inl (by simp)) _
      have hst : stopN N = { NK with queue := [] } := by
        unfold stopN
        rw [← HNK.out, ← HL.out, List.take_length]
        rfl
      rw [hst]
      obtain ⟨F', hr, hl⟩ := HS.out.head (G := [n]) (vq' := .slice none 0 0) (N' := { NK with queue := [] }) rfl hkn (fun k hk _ => by simp at hk; subst hk; exact .inl HS.out.tn) (by simpa [pc] using HS.out.blk.set_ 2 (.slice none 0 0)) (by simpa [natsV] using Row.nil _ 3 1) (by simp [Value.ownBlock])
      have hz := HKP.out.size
      refine ⟨rfl, ⟨F', hr, fun k hk => ?_⟩, HKP.out.trans hkn (fun g hg => .inl (by simp at hg; subst hg; exact hnF))⟩
      rcases hl k hk with e | e
      · exact .inl e
      · exact .inr (by omega)
end Go.Proofs.Ytkeffebcmajhmaa
