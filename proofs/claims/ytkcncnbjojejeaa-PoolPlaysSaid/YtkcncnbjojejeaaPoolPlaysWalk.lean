/- The walk of PoolPlays. -/
import Derived.Test.YtkcncnbjojejeaaRefp2
import Derived.Test.YtkcncnbjojejeaaRingSt
import Derived.Deep.DeepCutAuto
import Derived.Deep.CutBlock
import Derived.Deep.DrawnRows
import Derived.Laws.BitsAllLaws
import Derived.Laws.BitsLemmas
namespace Go.Proofs.Ytkcncnbjojejeaa
open Go.RowKit
set_option linter.unusedVariables false
attribute [local go_sem ↓] Go.wp_at_zero Go.wp_at_succ
theorem first_free : ∀ L : List Bool, (∀ j, j < L.length → L.getD j false = true) ∨ ∃ i, i < L.length ∧ (∀ j, j < i → L.getD j false = true) ∧ L.getD i false = false
  | [] => .inl (by simp)
  | false :: L => .inr ⟨0, by simp, by omega, rfl⟩
  | true :: L => by
    rcases first_free L with h | ⟨i, h1, h2, h3⟩
    · left
      intro j hj
      cases j with
      | zero => rfl
      | succ j => simpa using h j (by simpa using hj)
    · right
      refine ⟨i + 1, by simpa using h1, fun j hj => ?_, by simpa using h3⟩
      cases j with
      | zero => rfl
      | succ j => simpa using h2 j (by omega)
def PSt (w W : World) (p g x h size : Nat) : Prop := ∃ L most, PoolRep W p g L size most ∧ PR W x h L size most ∧ w.heap.size ≤ p ∧ w.heap.size ≤ g ∧ w.heap.size ≤ x ∧ w.heap.size ≤ h ∧ p ≠ x ∧ p ≠ h ∧ g ≠ x ∧ g ≠ h ∧ Keeps [] w W
theorem PSt.keeps {w W W' : World} {p g x h size : Nat} (hs : PSt w W p g x h size) (hk : Keeps [] W W') : PSt w W' p g x h size := by
  obtain ⟨L, most, h1, h2, h3, h4, h5, h6, h7, h8, h9, h10, h11⟩ := hs
  exact ⟨L, most, h1.keeps hk (by simp) (by simp), h2.keeps hk (by simp) (by simp), h3, h4, h5, h6, h7, h8, h9, h10, h11.trans hk (by simp)⟩
/-- both pools have turned; then something else. -/
theorem PSt.turn {w W W1 W2 W3 : World} {p g x h size most' : Nat} {L' : List Bool} {K : List Nat} (h1 : PoolRep W1 p g L' size most') (h2 : PR W2 x h L' size most') (hk1 : Keeps [p, g] W W1) (hk2 : Keeps [x, h] W1 W2) (hk3 : Keeps K W2 W3) (h3 : w.heap.size ≤ p) (h4 : w.heap.size ≤ g) (h5 : w.heap.size ≤ x) (h6 : w.heap.size ≤ h)
    (h7 : p ≠ x) (h8 : p ≠ h) (h9 : g ≠ x) (h10 : g ≠ h) (h11 : Keeps [] w W) (hK : ∀ j ∈ K, j ≠ p ∧ j ≠ g ∧ j ≠ x ∧ j ≠ h ∧ w.heap.size ≤ j) : PSt w W3 p g x h size := by
  refine ⟨L', most', (h1.keeps hk2 (by simp; omega) (by simp; omega)).keeps hk3 (fun hj => (hK _ hj).1 rfl) (fun hj => (hK _ hj).2.1 rfl), h2.keeps hk3 (fun hj => (hK _ hj).2.2.1 rfl) (fun hj => (hK _ hj).2.2.2.1 rfl), h3, h4, h5, h6, h7, h8, h9, h10, ((h11.trans hk1 (fun j hj => ?_)).trans hk2 (fun j hj => ?_)).trans hk3 (fun j hj => .inr (hK j hj).2.2.2.2)⟩
  · simp at hj
    rcases hj with rfl | rfl
    · exact .inr h3
    · exact .inr h4
  · simp at hj
    rcases hj with rfl | rfl
    · exact .inr h5
    · exact .inr h6
theorem ints_in {W : World} {G : List Nat} {H : Nat} {a b : Int} (hB : Blk W H 3 #[.int .i64 a, .int .i64 b]) (hG : H ∉ G) : CellsIn W G (.slice (some ⟨H, 0, none⟩) 2 2) (([a, b] : List Int).map (.int .i64)) :=
  ⟨_, 2, rfl, by simp, by simp [maxLen], fun _ => ⟨H, 0, rfl, hG, fun j u hj => by
    rw [hB.cell, Nat.zero_add]
    simpa using hj⟩⟩
set_option maxRecDepth 100000 in
set_option maxHeartbeats 8000000 in
theorem poolPlays_in (w : World) (R size : Nat) (hR : R ≤ 4096) (hs1 : 1 ≤ size) (hs2 : size ≤ 65536) (A : Option Addr) (c : Nat) (l : List Int) (hl : CellsIn w [] (.slice A l.length c) (l.map (.int .i64))) (hlen : l.length ≤ 9223372036854775807) :
    Calls Try.prog 10 #[.int .i64 R, .int .i64 size, .slice A l.length c] w fun e w' => e = .returned (.bool true) ∧ Below w.heap.size w w' := by
  have HL := hid hl
  clear hl
  go_enter Try.func10, Try.ntmps10
  go_wp2_with fail
  refine (pnew_ok R size _ hR hs1 hs2).mono ?_
  rintro e w1 ⟨rfl, hp1, hk1⟩
  obtain ⟨p, hpe⟩ : ∃ p, w.heap.size + 1 = p := ⟨_, rfl⟩
  obtain ⟨g, hge⟩ : ∃ g, w.heap.size = g := ⟨_, rfl⟩
  rw [hpe, hge] at hp1
  rw [hpe]
  have hfp : w.heap.size ≤ p := by omega
  have hfg : w.heap.size ≤ g := by omega
  clear hpe hge
  go_wp2_with fail
  refine (rpnew_ok R size _ hR hs1 hs2).mono ?_
  rintro e w2 ⟨rfl, hx2, hk2⟩
  obtain ⟨x, hxe⟩ : ∃ x, w1.heap.size + 1 = x := ⟨_, rfl⟩
  obtain ⟨h, hhe⟩ : ∃ h, w1.heap.size = h := ⟨_, rfl⟩
  rw [hxe, hhe] at hx2
  rw [hxe]
  have hst : Hid (PSt w w2 p g x h size) := by
    have h1 := hp1.lt
    have h2 := hk1.size
    exact ⟨_, _, hp1.keeps hk2 (by simp) (by simp), hx2, hfp, hfg, by omega, by omega, by omega, by omega, by omega, by omega, hk1.trans hk2 (by simp)⟩
  clear hxe hhe hp1 hx2 hk1 hk2
  go_wp2_with fail
  go_loopw [11, 12, 13, 14, 15, 16, 17, 18, 19] (fun i _ _ _ _ _ _ _ _ wr => ∃ k : Nat, k ≤ l.length ∧ k ≤ 150 ∧ i = .int .i64 k ∧ PSt w wr p g x h size) (fun i _ _ _ _ _ _ _ _ _ => l.length - (intOf i).toNat)
  case atStart => exact ⟨0, Nat.zero_le _, by omega, rfl, hst.out⟩
  case round =>
    clear hst
    obtain ⟨k, hk, hk150, rfl, L, most, hS⟩ := hrel
    have HST := hid hS
    clear hS
    by_cases hlt : k < l.length ∧ k < 150
    · obtain ⟨hl1, hl2⟩ := hlt
      obtain ⟨n, hn⟩ : ∃ n, l[k]? = some n := ⟨l[k], by simp [hl1]⟩
      have hw0 : Keeps [] w wr := by
        obtain ⟨_, _, _, _, _, _, _, _, _, _, h⟩ := HST.out
        exact h
      obtain ⟨b, o, rfl, -, hc⟩ := HL.out.at_ (by simp; omega)
      have hcw := hc k (.int .i64 n) (by simp [hn])
      have hbw : b < w.heap.size := World.block_lt_of_cell? w _ hcw
      have hcell := cell_keep hw0 (by simp) hcw
      have hki : (k : Int) < l.length := by omega
      have hki2 : (k : Int) < 150 := by omega
      have HW0 := hid hw0
      clear hc hn hw0 hcw
      go_upto_if 59 with (fail)
      go_cut [12, 13, 14, 15, 16, 17] (fun _ _ _ _ _ _ wx => PSt w wx p g x h size)
      case first =>
        by_cases hneg : n < 0
        · rcases first_free L with hall | ⟨i, hi, hall, hif⟩
          · have hg := get_full p g size most L wr HST.out.1 hall
            have hr := rpget_full x h size most L wr HST.out.2.1 hall
            clear hall
            go_wp2_with (first
              | (go_at_call 31; refine hg.mono ?_; rintro e w3 ⟨rfl, rfl⟩)
              | (go_at_call 37; refine hr.mono ?_; rintro e w4 ⟨rfl, rfl⟩))
            go_meet
            case rel => exact ⟨L, most, HST.out⟩
          · obtain ⟨s1, s2, s3, s4, s5, s6, s7, s8, s9, s10, s11⟩ := id HST.out
            have hg := get_ok p g size most i L wr s1 hi hall hif
            have hlx := s2.lt
            clear s1 s2
            go_wp2_with fail
            refine hg.mono ?_
            rintro e w3 ⟨a, ab, rfl, hp3, hr3, ha3, hb3, hk3⟩
            have hx3 : PR w3 x h L size most := HST.out.2.1.keeps hk3 (by simp; omega) (by simp; omega)
            have hr := rpget_ok x h size most i L w3 hx3 hi hall hif
            have hlp := hp3.lt
            have hla := hr3.lt
            clear hg hall hif
            go_wp2_with fail
            refine hr.mono ?_
            rintro e w4 ⟨ra, rfl, hx4, hk4⟩
            have hlx4 := hx4.lt
            have hr4 : RingRep w4 a ab size 0 [] := hr3.keeps hk4 (by simp; omega) (by simp; omega)
            have HR4 := hid hr4
            have HP3 := hid hp3
            have HX4 := hid hx4
            have HK3 := hid hk3
            have HK4 := hid hk4
            have hlen4 := len_any a 0 w4 (by simpa using hr4.c2)
            have hroom4 := room_at a ab size 0 [] size w4 hr4 (by simp)
            have kc := fun (w : World) (C : Array Value) (n c H : Nat) (hH : w.heap.size = H) => run_convert_const (P := Try.prog) w 32 5 C n c H Try.underlying32 Try.underlying5 hH
            clear hr hr3 hp3 hx3 hx4 hk3 hk4 hr4
            go_wp2_with fail
            refine hlen4.mono ?_
            rintro e w5 ⟨rfl, rfl⟩
            clear hlen4
            go_wp2_with fail
            refine hroom4.mono ?_
            rintro e w5 ⟨rfl, hk5⟩
            have HR5 := hid (HR4.out.keeps hk5 (by simp) (by simp))
            have HK5 := hid hk5
            have hla5 : a < w5.heap.size ∧ ab < w5.heap.size := HR5.out.lt
            clear hroom4 hk5
            go_wp2_with fail
            refine (write_any a ab size 0 [] _ _ _ [(.slice (some ⟨w5.heap.size, 0, none⟩) 4 4, [108, 101, 102, 116])] _ ?_ ?_ ?_ rfl rfl).mono ?_
            · exact HR5.out.keeps (((Keeps.refl [] w5).alloc _).alloc _) (by simp) (by simp)
            · have h := CellsIn.newM (w5.alloc (.cells #[.int .u8 108, .int .u8 101, .int .u8 102, .int .u8 116] 5 (4, 5))) [a, ab] [.slice (some ⟨w5.heap.size, 0, none⟩) 4 4] 32 (0, 0) (by simp; omega) (by simp)
              simpa using h
            · intro r hr0
              have h1 := (CellsIn.newM w5 [a, ab] (bytesV [108, 101, 102, 116]) 5 (4, 5) (by simp; omega) (by simp [bytesV])).keeps ((Keeps.refl [] _).alloc (.cells #[.slice (some ⟨w5.heap.size, 0, none⟩) 4 4] 32)) (by simp)
              simp only [List.mem_cons, List.not_mem_nil, or_false] at hr0
              subst hr0
              simpa [bytesV] using h1
            rintro e w6 ⟨rfl, -, hk6⟩
            have hT : PSt w w6 p g x h size := by
              have hk46 : Keeps [a, ab] w4 w6 := (((HK5.out.mono (G := [a, ab]) (by simp)).alloc _).alloc _).trans hk6 (fun j hj => .inl hj)
              have h1 := HST.out.1.lt
              have h2 := s11.size
              exact PSt.turn HP3.out HX4.out HK3.out HK4.out hk46 s3 s4 s5 s6 s7 s8 s9 s10 s11 (fun j hj => by
                simp at hj
                rcases hj with rfl | rfl <;> omega)
            have HT := hid hT
            clear hT hk6 kc
            go_wp2_with fail
            go_meet
            case rel => exact HT.out
        · have hn0 : 0 ≤ n := by omega
          obtain ⟨s1, s2, s3, s4, s5, s6, s7, s8, s9, s10, s11⟩ := id HST.out
          have hl1' := s1.lt
          have hl2' := s2.lt
          obtain ⟨y, hy⟩ : ∃ y, bits BinOp.xor IntKind.i64 n 1 = y := ⟨_, rfl⟩
          have hput := fun W H0 (hW : Keeps [] wr W) (hB : Blk W H0 3 #[.int .i64 n, .int .i64 y]) (hH : wr.heap.size ≤ H0) =>
            put_any p g size most L _ [n, y] W (s1.keeps hW (by simp) (by simp)) (ints_in hB (by simp; omega))
          have hrput := fun W1 W H0 (hW1 : Keeps [p, g] wr W1) (hW : Keeps [] W1 W) (hB : Blk W H0 3 #[.int .i64 n, .int .i64 y]) (hH : wr.heap.size ≤ H0) =>
            rpput_any x h size most L _ [n, y] W ((s2.keeps hW1 (by simp; omega) (by simp; omega)).keeps hW (by simp) (by simp)) (ints_in hB (by simp; omega))
          obtain ⟨L2, hL2⟩ : ∃ L2, ([n, y] : List Int).foldl putStep L = L2 := ⟨_, rfl⟩
          obtain ⟨d, hd⟩ : ∃ d, ((L.count true : Nat) : Int) - (L2.count true : Nat) = d := ⟨_, rfl⟩
          rw [hL2, hd] at hput hrput
          have HPUT := hid hput
          have HRPUT := hid hrput
          have hbp : b ∉ [p, g] := by simp; omega
          have hbx : b ∉ [x, h] := by simp; omega
          have HBP := hid hbp
          have HBX := hid hbx
          clear hput hrput s1 s2 hL2 hd hbp hbx hneg
          go_wp2_with fail
          go_region_held3 (fun w' => w'.cell? ⟨b, o + k, none⟩ = some (.int .i64 n)) (first | trivial | assumption | (repeat (first | (with_reducible assumption) | (with_reducible refine alloc_cell ?_ _) | (with_reducible refine drew_cell ?_) | (with_reducible refine drewN_cell ?_ _))))
            (first
              | (go_at_call 33; refine (HPUT.out _ _ (by repeat (first | (with_reducible exact Keeps.refl _ _) | (with_reducible assumption) | (with_reducible refine Keeps.drewN ?_ _) | (with_reducible refine Keeps.drew ?_) | (with_reducible refine Keeps.alloc ?_ _))) (by repeat (first | (with_reducible refine Blk.drew ?_) | (with_reducible refine Blk.drewN ?_ _) | ((with_reducible refine Blk.newAt ?_); (first | rfl | (simp; done))) | (with_reducible refine Blk.alloc ?_ _))) (by simp)).mono ?_; rintro e wq ⟨rfl, hq', hkq0⟩; have hkq : Keeps [p, g] wr wq := (Keeps.trans (by repeat (first | (with_reducible exact Keeps.refl _ _) | (with_reducible assumption) | (with_reducible refine Keeps.drewN ?_ _) | (with_reducible refine Keeps.drew ?_) | (with_reducible refine Keeps.alloc ?_ _))) hkq0 (fun j hj => .inl hj)); have HBK := hid (fun (j : Nat) (cs : Array Value) (hB : Blk _ j 3 cs) (hG : j ∉ [p, g]) => hB.keeps hkq0 hG); have d2 := cell_keep hkq HBP.out hcell; have HQ' := hid hq'; clear hq' hkq0)
              | (go_at_call 38; refine (HRPUT.out wq _ _ hkq (by repeat (first | (with_reducible exact Keeps.refl _ _) | (with_reducible assumption) | (with_reducible refine Keeps.drewN ?_ _) | (with_reducible refine Keeps.drew ?_) | (with_reducible refine Keeps.alloc ?_ _))) (by first | (refine HBK.out _ _ (by repeat (first | (with_reducible refine Blk.drew ?_) | (with_reducible refine Blk.drewN ?_ _) | ((with_reducible refine Blk.newAt ?_); (first | rfl | (simp; done))) | (with_reducible refine Blk.alloc ?_ _))) (by simp; omega)) | (repeat (first | (with_reducible refine Blk.drew ?_) | (with_reducible refine Blk.drewN ?_ _) | ((with_reducible refine Blk.newAt ?_); (first | rfl | (simp; done))) | (with_reducible refine Blk.alloc ?_ _)))) (by have h1 := hkq.size; first | omega | (simp; omega))).mono ?_; rintro e wx ⟨rfl, hr', hkx0⟩; have hkx : Keeps [x, h] wq wx := (Keeps.trans (by repeat (first | (with_reducible exact Keeps.refl _ _) | (with_reducible assumption) | (with_reducible refine Keeps.drewN ?_ _) | (with_reducible refine Keeps.drew ?_) | (with_reducible refine Keeps.alloc ?_ _))) hkx0 (fun j hj => .inl hj)); have d4 := cell_keep hkx HBX.out d2; have HR' := hid hr'; clear hr' hkx0)
              | fail)
          all_goals
            clear HPUT HRPUT HBK
            have HT := hid (PSt.turn (K := []) HQ'.out HR'.out hkq hkx ((Keeps.refl [] wx).drewN 0) s3 s4 s5 s6 s7 s8 s9 s10 s11 (by simp))
            go_wp2_with fail
            go_meet
            case rel => exact HT.out.keeps ((Keeps.refl [] _).drewN 0)
      case rest =>
        obtain ⟨L2, most2, hS2⟩ := hcut
        have HS2 := hid hS2
        obtain ⟨s1, s2, s3, s4, s5, s6, s7, s8, s9, s10, s11⟩ := hS2
        obtain ⟨q1, -⟩ := id s2
        have hl := lent_any p g size most2 L2 wc s1
        have x2 := q1.cell 2
        have x3 := q1.cell 3
        simp at x2 x3
        clear s1 s2 q1 hcell
        go_wp2_with fail
        refine hl.mono ?_
        rintro e w3 ⟨rfl, hk3⟩
        have x4 := cell_keep hk3 (by simp) x2
        have x5 := cell_keep hk3 (by simp) x3
        have HK3 := hid hk3
        clear hl hk3 x2 x3
        go_wp2_with fail
        go_roundw
        case rel => exact ⟨k + 1, by omega, by omega, by go_num, (PSt.keeps ⟨L2, most2, HS2.out⟩ HK3.out)⟩
        case measure => simp [intOf] <;> omega
    · have hw0 : Keeps [] w wr := by
        obtain ⟨_, _, _, _, _, _, _, _, _, _, h⟩ := HST.out
        exact h
      rcases (by omega : ¬ k < l.length ∨ (k < l.length ∧ ¬ k < 150)) with h | ⟨h0, h⟩
      all_goals
        go_wp2_with (go_at_call 34; refine (pknown_any _).mono ?_; rintro e w5 ⟨rfl, hk5⟩)
        go_ret
        exact ⟨rfl, (hw0.trans hk5 (by simp)).below (Nat.le_refl _) (by simp)⟩
set_option maxHeartbeats 1000000 in
theorem poolPlays_out (w : World) (R size : Int) (v : Value) (h : R < 0 ∨ (0 ≤ R ∧ 4096 < R) ∨ (0 ≤ R ∧ R ≤ 4096 ∧ size < 1) ∨ (0 ≤ R ∧ R ≤ 4096 ∧ 1 ≤ size ∧ 65536 < size)) :
    Calls Try.prog 10 #[.int .i64 R, .int .i64 size, v] w fun e w' => e = .returned (.bool true) ∧ Below w.heap.size w w' := by
  have h1 := pnew_bad R size w h
  have h2 := rpnew_bad R size w h
  clear h
  go_enter Try.func10, Try.ntmps10
  go_wp2_with (first
    | (go_at_call 35; refine h1.mono ?_; rintro e w1 ⟨rfl, rfl⟩)
    | (go_at_call 36; refine h2.mono ?_; rintro e w2 ⟨rfl, rfl⟩)
    | (go_at_call 34; refine (pknown_any _).mono ?_; rintro e w5 ⟨rfl, hk5⟩))
  go_ret
  exact ⟨rfl, hk5.below (Nat.le_refl _) (by simp)⟩
theorem poolPlays_walk (w : World) (R : Int) (_ : (Lit.int .i64 R).wf = true) (size : Int) (_ : (Lit.int .i64 size).wf = true) (lv : Value) (l : List Int) (hl : CellsIn w [] lv (l.map (.int .i64))) (_ : ∀ n ∈ l, (Lit.int .i64 n).wf = true) :
    Calls Try.prog 10 #[.int .i64 R, .int .i64 size, lv] w fun e w' => e = .returned (.bool true) ∧ Below w.heap.size w w' := by
  by_cases hg : 0 ≤ R ∧ R ≤ 4096 ∧ 1 ≤ size ∧ size ≤ 65536
  · obtain ⟨h1, h2, h3, h4⟩ := hg
    obtain ⟨r, rfl⟩ := Int.eq_ofNat_of_zero_le h1
    obtain ⟨s, rfl⟩ := Int.eq_ofNat_of_zero_le (by omega : 0 ≤ size)
    have HL := hid hl
    obtain ⟨A, c, rfl, h5, h6⟩ := hl.shape
    simp only [List.length_map] at HL h5 ⊢
    exact poolPlays_in w r s (by omega) (by omega) (by omega) A c l HL.out (by omega)
  · exact poolPlays_out w R size lv (by omega)
end Go.Proofs.Ytkcncnbjojejeaa
