/-
  Words for memory that all texts of this seat use: which blocks a call may have changed ('Keeps'), a block known whole ('Blk'), a slice that reads as a list of cells at any offset ('Row'), and append on such a slice. No program in sight.
-/
import Derived.WalkKit
import Derived.WalkSpells
import Derived.WalkLawsBesides
import Derived.Deep.Draws
import Derived.Deep.AppendLies
import Derived.Lib.SlBytesConst
namespace Go.Proofs.Ytkeffebcmajhmaa
open Go.RowKit

theorem hid {p : Prop} (h : p) : Hid p := h

/-! ### which blocks may have changed -/
structure Keeps (F : List Nat) (w w' : World) : Prop where
  os : w'.os = w.os
  tape : w'.tape = w.tape
  output : w'.output = w.output
  size : w.heap.size ≤ w'.heap.size
  block : ∀ k, k < w.heap.size → k ∉ F → w'.heap[k]? = w.heap[k]?

section
variable {w w' w'' : World} {F G : List Nat}
theorem Keeps.refl (F : List Nat) (w : World) : Keeps F w w := ⟨rfl, rfl, rfl, Nat.le_refl _, fun _ _ _ => rfl⟩
theorem Keeps.trans (h : Keeps F w w') (k : Keeps G w' w'') (hG : ∀ g ∈ G, g ∈ F ∨ w.heap.size ≤ g) : Keeps F w w'' :=
  ⟨k.os.trans h.os, k.tape.trans h.tape, k.output.trans h.output, Nat.le_trans h.size k.size, fun i hi hF =>
    (k.block i (Nat.lt_of_lt_of_le hi h.size) (fun hg => (hG i hg).elim hF (fun h2 => by omega))).trans (h.block i hi hF)⟩
theorem Keeps.mono (h : Keeps F w w') (hs : ∀ g ∈ F, g ∈ G) : Keeps G w w' := ⟨h.os, h.tape, h.output, h.size, fun i hi hG => h.block i hi (fun hf => hG (hs i hf))⟩
theorem Keeps.drew (h : Keeps F w w') : Keeps F w w'.drew := ⟨h.os, h.tape, h.output, h.size, h.block⟩
theorem Keeps.drewN (h : Keeps F w w') (n : Nat) : Keeps F w (w'.drewN n) := ⟨h.os, h.tape, h.output, h.size, h.block⟩
theorem Keeps.alloc (h : Keeps F w w') (o : Obj) : Keeps F w (w'.alloc o) :=
  ⟨h.os, h.tape, h.output, Nat.le_trans h.size (by simp), fun k hk hF => (Below.heap_alloc _ _ _ (Nat.lt_of_lt_of_le hk h.size)).trans (h.block k hk hF)⟩
theorem Keeps.setCell (h : Keeps F w w') {p : Addr} (hp : p.block ∈ F ∨ w.heap.size ≤ p.block) (u : Value) : Keeps F w (w'.setCell p u) :=
  ⟨h.os, h.tape, h.output, Nat.le_trans h.size (by simp [World.setCell]), fun k hk hF =>
    (Below.heap_setCell _ _ _ _ (fun e => by subst e; exact hp.elim hF (fun h2 => by omega))).trans (h.block k hk hF)⟩
theorem Keeps.grown (h : Keeps F w w') {row : Option Nat} (hg : w'.grownBy w'' row) (hr : ∀ k, row = some k → k ∈ F ∨ w.heap.size ≤ k) : Keeps F w w'' :=
  ⟨hg.os.trans h.os, hg.tape.trans h.tape, hg.output.trans h.output, Nat.le_trans h.size hg.size, fun k hk hF =>
    (hg.block k (Nat.lt_of_lt_of_le hk h.size) (fun e => (hr k e.symm).elim hF (fun h2 => by omega))).trans (h.block k hk hF)⟩
theorem Keeps.below {B : Nat} (h : Keeps F w w') (hB : B ≤ w.heap.size) (hF : ∀ g ∈ F, B ≤ g) : Below B w w' :=
  ⟨h.os, h.tape, h.output, h.size, fun k hk => h.block k (by omega) (fun hf => by have := hF k hf; omega)⟩
theorem Keeps.of_below (h : Below w.heap.size w w') : Keeps F w w' := ⟨h.os, h.tape, h.output, h.size, fun k hk _ => h.block k hk⟩
theorem Keeps.cell (h : Keeps F w w') {p : Addr} (hp : p.block < w.heap.size) (hF : p.block ∉ F) : w'.cell? p = w.cell? p := World.cell?_of_block (w := w) (h.block _ hp hF)
theorem Keeps.frozen (h : Keeps F w w') {p : Addr} (hp : p.block < w.heap.size) (hF : p.block ∉ F) : w'.frozen? p = w.frozen? p := World.frozen?_of_block (w := w) (h.block _ hp hF)
end

/-! ### a block that is known whole -/
def Blk (w : World) (g : Nat) (t : TypeId) (cs : Array Value) : Prop := w.heap[g]? = some (.cells cs t (0, 0))
section
variable {w w' : World} {g : Nat} {t : TypeId} {cs : Array Value}
theorem Blk.lt (h : Blk w g t cs) : g < w.heap.size := by
  rcases Nat.lt_or_ge g w.heap.size with hlt | hge
  · exact hlt
  · unfold Blk at h; rw [Array.getElem?_eq_none hge] at h; cases h
theorem Blk.cell (h : Blk w g t cs) (i : Nat) : w.cell? ⟨g, i, none⟩ = cs[i]? := cell_of_row w g i cs t (0, 0) h
theorem Blk.frozen (h : Blk w g t cs) (i : Nat) : w.frozen? ⟨g, i, none⟩ = false := by
  unfold Blk at h
  simp [World.frozen?, h]
theorem Blk.new (w : World) (t : TypeId) (cs : Array Value) : Blk (w.alloc (.cells cs t)) w.heap.size t cs := heap_alloc_new w _
theorem Blk.drew (h : Blk w g t cs) : Blk w.drew g t cs := h
theorem Blk.drewN (h : Blk w g t cs) (n : Nat) : Blk (w.drewN n) g t cs := h
theorem Blk.alloc (h : Blk w g t cs) (o : Obj) : Blk (w.alloc o) g t cs := (Below.heap_alloc w o g h.lt).trans h
theorem Blk.set_ (h : Blk w g t cs) (i : Nat) (u : Value) : Blk (w.setCell ⟨g, i, none⟩ u) g t (cs.setIfInBounds i u) := by
  unfold Blk at h ⊢
  simp [World.setCell, Array.getElem?_modify, h]
theorem Blk.far (h : Blk w g t cs) {p : Addr} (hp : g ≠ p.block) (u : Value) : Blk (w.setCell p u) g t cs := (Below.heap_setCell w p u g hp).trans h
theorem Blk.keeps {F : List Nat} (h : Blk w g t cs) (hk : Keeps F w w') (hg : g ∉ F) : Blk w' g t cs := (hk.block g h.lt hg).trans h
theorem Blk.below {B : Nat} (h : Blk w g t cs) (hb : Below B w w') (hg : g < B) : Blk w' g t cs := (hb.block g hg).trans h
theorem Blk.grown {row : Option Nat} (h : Blk w g t cs) (hb : w.grownBy w' row) (hg : some g ≠ row) : Blk w' g t cs := (hb.block g h.lt hg).trans h
theorem Blk.ne_ {g' : Nat} {t' : TypeId} {cs' : Array Value} (h : Blk w g t cs) (h' : Blk w g' t' cs') (hne : t ≠ t') : g ≠ g' := by
  rintro rfl
  unfold Blk at h h'
  rw [h] at h'
  injection h' with h'
  injection h' with _ ht
  exact hne ht
end

/-! ### a slice that reads as a list of cells, its block the program's own -/
def Row (w : World) (e : TypeId) (size : Nat) (v : Value) (n : Nat) (xs : List Value) : Prop :=
  xs.length = n * size ∧ ((v = .slice none 0 0 ∧ n = 0) ∨
    ∃ g off cap cur, v = .slice (some ⟨g, off, none⟩) n cap ∧ Blk w g e cur ∧ n ≤ cap ∧ cap ≤ maxLen ∧ off + cap * size ≤ cur.size ∧ (cur.toList.drop off).take (n * size) = xs)
section
variable {P : Program} {w w' : World} {e : TypeId} {size : Nat} {v : Value} {n : Nat} {xs : List Value}
theorem Row.nil (w : World) (e : TypeId) (size : Nat) : Row w e size (.slice none 0 0) 0 [] := ⟨by simp, .inl ⟨rfl, rfl⟩⟩
theorem Row.lt (h : Row w e size v n xs) : ∀ k, v.ownBlock = some k → k < w.heap.size := by
  intro k hk
  rcases h.2 with ⟨rfl, _⟩ | ⟨g, off, cap, cur, rfl, hg, _⟩
  · simp [Value.ownBlock] at hk
  · simp [Value.ownBlock] at hk
    subst hk
    exact hg.lt
theorem Row.keeps {F : List Nat} (h : Row w e size v n xs) (hk : Keeps F w w') (hF : ∀ k, v.ownBlock = some k → k ∉ F) : Row w' e size v n xs := by
  refine ⟨h.1, ?_⟩
  rcases h.2 with hn | ⟨g, off, cap, cur, rfl, hg, rest⟩
  · exact .inl hn
  · exact .inr ⟨g, off, cap, cur, rfl, hg.keeps hk (hF g rfl), rest⟩
theorem Row.alloc (h : Row w e size v n xs) (o : Obj) : Row (w.alloc o) e size v n xs := h.keeps ((Keeps.refl [] w).alloc o) (by simp)
theorem Row.drew (h : Row w e size v n xs) : Row w.drew e size v n xs := h
theorem Row.drewN (h : Row w e size v n xs) (k : Nat) : Row (w.drewN k) e size v n xs := h
theorem Row.far (h : Row w e size v n xs) {p : Addr} (hp : ∀ k, v.ownBlock = some k → k ≠ p.block) (u : Value) : Row (w.setCell p u) e size v n xs := by
  refine ⟨h.1, ?_⟩
  rcases h.2 with hn | ⟨g, off, cap, cur, rfl, hg, rest⟩
  · exact .inl hn
  · exact .inr ⟨g, off, cap, cur, rfl, hg.far (hp g rfl) u, rest⟩
theorem Row.blk_ne {g : Nat} {t : TypeId} {cs : Array Value} (h : Row w e size v n xs) (hg : Blk w g t cs) (hne : e ≠ t) : ∀ k, v.ownBlock = some k → k ≠ g := by
  intro k hk
  rcases h.2 with ⟨rfl, _⟩ | ⟨g', off, cap, cur, rfl, hg', _⟩
  · simp [Value.ownBlock] at hk
  · simp [Value.ownBlock] at hk
    subst hk
    exact hg'.ne_ hg hne
/-- the slice's shape. -/
theorem Row.form (h : Row w e size v n xs) : ∃ A cap, v = .slice A n cap ∧ n ≤ cap ∧ cap ≤ maxLen ∧ (A = none → n = 0 ∧ cap = 0) ∧
    (∀ ad, A = some ad → ad.spot = none ∧ v.ownBlock = some ad.block ∧ ∀ j u, xs[j]? = some u → w.cell? (ad.add j) = some u) := by
  rcases h.2 with ⟨rfl, rfl⟩ | ⟨g, off, cap, cur, rfl, hg, h1, h2, h3, h4⟩
  · exact ⟨none, 0, rfl, Nat.le_refl _, by simp [maxLen], fun _ => ⟨rfl, rfl⟩, by simp⟩
  · refine ⟨_, cap, rfl, h1, h2, by simp, ?_⟩
    rintro ad had
    injection had with had
    subst had
    refine ⟨rfl, rfl, fun j u hj => ?_⟩
    rw [Addr.add_lit, hg.cell]
    rw [← h4, List.getElem?_take, List.getElem?_drop] at hj
    split at hj
    · simpa using hj
    · cases hj
end

/-! ### what is read: a slice's cells, nil let in -/
def Reads (w : World) (size : Nat) (A : Option Addr) (n : Nat) (xs : List Value) : Prop :=
  xs.length = n * size ∧ (0 < n → ∃ ad, A = some ad ∧ ∀ j u, xs[j]? = some u → w.cell? (ad.add j) = some u)
section
variable {w w' : World} {size n : Nat} {A : Option Addr} {xs : List Value}
theorem Reads.none_ (w : World) (size : Nat) (A : Option Addr) : Reads w size A 0 [] := ⟨by simp, fun h => absurd h (by omega)⟩
theorem Reads.of_eq (h : Reads w size A n xs) (hk : ∀ (p : Addr) u, w.cell? p = some u → A.map (·.block) = some p.block → w'.cell? p = some u) : Reads w' size A n xs :=
  ⟨h.1, fun hn => by
    obtain ⟨ad, e, hc⟩ := h.2 hn
    refine ⟨ad, e, fun j u hu => hk _ _ (hc j u hu) ?_⟩
    subst e
    simp only [Option.map_some, Addr.add]
    split <;> rfl⟩
theorem Reads.keeps {F : List Nat} (h : Reads w size A n xs) (hk : Keeps F w w') (hF : ∀ ad, A = some ad → ad.block ∉ F) : Reads w' size A n xs :=
  h.of_eq fun p u hu hp => by
    have hlt := World.block_lt_of_cell? w p hu
    rw [hk.cell hlt (by cases A with | none => simp at hp | some ad => simp at hp; rw [← hp]; exact hF ad rfl)]
    exact hu
theorem Reads.below {B : Nat} (h : Reads w size A n xs) (hk : Below B w w') (hF : ∀ ad, A = some ad → ad.block < B) : Reads w' size A n xs :=
  h.of_eq fun p u hu hp => by
    rw [hk.cell (by cases A with | none => simp at hp | some ad => simp at hp; rw [← hp]; exact hF ad rfl)]
    exact hu
theorem Reads.alloc (h : Reads w size A n xs) (o : Obj) : Reads (w.alloc o) size A n xs := h.keeps (F := []) ((Keeps.refl [] w).alloc o) (by simp)
theorem Reads.drew (h : Reads w size A n xs) : Reads w.drew size A n xs := h
theorem Reads.drewN (h : Reads w size A n xs) (k : Nat) : Reads (w.drewN k) size A n xs := h
theorem Reads.lt (h : Reads w size A n xs) (hs : 0 < size) (hn : 0 < n) : ∃ ad, A = some ad ∧ ad.block < w.heap.size := by
  obtain ⟨ad, e, hc⟩ := h.2 hn
  have hl : 0 < xs.length := by rw [h.1]; exact Nat.mul_pos hn hs
  have := World.block_lt_of_cell? w _ (hc 0 _ (List.getElem?_eq_getElem hl))
  refine ⟨ad, e, ?_⟩
  simpa [Addr.add] using this
theorem Row.reads {e : TypeId} {A : Option Addr} {c : Nat} (h : Row w e size (.slice A n c) n xs) : Reads w size A n xs := by
  obtain ⟨A', cap, hv, _, _, hn, hc⟩ := h.form
  injection hv with hA
  subst hA
  refine ⟨h.1, fun hpos => ?_⟩
  cases A with
  | none => have := (hn rfl).1; omega
  | some ad => exact ⟨ad, rfl, (hc ad rfl).2.2⟩
end

/-! ### append onto such a slice -/
section
variable {P : Program} (w : World)
theorem heap_setCells (b : Nat) : ∀ (vs : List Value) (o k : Nat) (w : World), k ≠ b → (w.setCells b o vs).heap[k]? = w.heap[k]?
  | [], _, _, _, _ => rfl
  | v :: r, o, k, w, h => by rw [World.setCells, heap_setCells b r _ _ _ h, Below.heap_setCell _ _ _ _ h]
theorem size_setCells (b : Nat) : ∀ (vs : List Value) (o : Nat) (w : World), (w.setCells b o vs).heap.size = w.heap.size
  | [], _, _ => rfl
  | v :: r, o, w => by rw [World.setCells, size_setCells b r]; simp [World.setCell]
theorem os_setCells (b : Nat) : ∀ (vs : List Value) (o : Nat) (w : World), (w.setCells b o vs).os = w.os
  | [], _, _ => rfl
  | v :: r, o, w => by rw [World.setCells, os_setCells b r]; rfl
theorem tape_setCells (b : Nat) : ∀ (vs : List Value) (o : Nat) (w : World), (w.setCells b o vs).tape = w.tape
  | [], _, _ => rfl
  | v :: r, o, w => by rw [World.setCells, tape_setCells b r]; rfl
theorem output_setCells (b : Nat) : ∀ (vs : List Value) (o : Nat) (w : World), (w.setCells b o vs).output = w.output
  | [], _, _ => rfl
  | v :: r, o, w => by rw [World.setCells, output_setCells b r]; rfl
def putCells : Nat → List Value → Array Value → Array Value
  | _, [], c => c
  | o, v :: r, c => putCells (o + 1) r (c.setIfInBounds o v)
theorem size_putCells : ∀ (vs : List Value) (o : Nat) (c : Array Value), (putCells o vs c).size = c.size
  | [], _, _ => rfl
  | v :: r, o, c => by rw [putCells, size_putCells r]; simp
theorem blk_setCells {b : Nat} {t : TypeId} : ∀ (vs : List Value) (o : Nat) (w : World) (cs : Array Value), Blk w b t cs → Blk (w.setCells b o vs) b t (putCells o vs cs)
  | [], _, _, _, h => h
  | v :: r, o, w, cs, h => by rw [World.setCells, putCells]; exact blk_setCells r _ _ _ (h.set_ o v)
theorem putCells_toList : ∀ (vs : List Value) (o : Nat) (c : Array Value), o + vs.length ≤ c.size →
    (putCells o vs c).toList = c.toList.take o ++ vs ++ c.toList.drop (o + vs.length)
  | [], o, c, _ => by simp [putCells]
  | v :: r, o, c, h => by
    simp only [List.length_cons] at h
    rw [putCells, putCells_toList r (o + 1) _ (by simp; omega)]
    simp only [Array.toList_setIfInBounds, List.length_cons]
    rw [List.take_set, List.drop_set_of_lt (by omega), List.take_succ_eq_append_getElem (by simpa using (by omega : o < c.size))]
    simp only [List.append_assoc]
    have h1 : (List.take o c.toList ++ [c.toList[o]'(by simpa using (by omega : o < c.size))]).set o v = List.take o c.toList ++ [v] := by
      rw [List.set_append_right _ _ (by simp; omega)]
      congr 1
      have : o - (List.take o c.toList).length = 0 := by simp; omega
      rw [this]; rfl
    rw [h1]
    simp [Nat.add_assoc, Nat.add_comm 1]

theorem run_append_row (t ty e : TypeId) (i : TypeInfo) (z : Value) (size bytes : Nat) (ht : P.underlying t = some (.slice e)) (hi : P.info? e = some i) (hz : i.zero = some z)
    (hsize : i.size = size) (hby : i.bytes = bytes) (hzs : z.cells.size = size) (hsz : 0 < size)
    (v : Value) (n : Nat) (xs : List Value) (hrow : Row w e size v n xs)
    (A : Option Addr) (m c : Nat) (news : List Value) (hr : Reads w size A m news) (h1 : ∀ u ∈ news, u.oneCell' = true)
    (h63 : n + m ≤ maxLen) (hbytes : (n + m) * bytes ≤ 140737488355328) :
    ∃ v' w', (Builtin.append_ #[t, t] ty #[v, .slice A m c]).run P w = .ok v' w' ∧ Row w' e size v' (n + m) (xs ++ news) ∧ Keeps v.ownBlock.toList w w' ∧
      (∀ k, v'.ownBlock = some k → v.ownBlock = some k ∨ w.heap.size ≤ k) := by
  rcases Nat.eq_zero_or_pos m with hm | hm
  · subst hm
    obtain rfl : news = [] := List.eq_nil_of_length_eq_zero (by simpa using hr.1)
    have hrun : (Builtin.append_ #[t, t] ty #[v, .slice A 0 c]).run P w = .ok v w := by
      rcases hrow.2 with ⟨rfl, rfl⟩ | ⟨g, off, cap, cur, rfl, _, hnc, _⟩
      · cases A <;> simp [Builtin.append_, run_underlying ht, sizeOf, typeInfo, hi, Builtin.lenOf, Builtin.firstCells, loadCells, loadCellsFrom]
      · cases A <;> simp [Builtin.append_, run_underlying ht, sizeOf, typeInfo, hi, Builtin.lenOf, Builtin.firstCells, hnc, storeCells, loadCells, loadCellsFrom]
    exact ⟨v, w, hrun, by simpa using hrow, Keeps.refl _ _, fun _ h => .inl h⟩
  · obtain ⟨ad, rfl, hnews⟩ := hr.2 hm
    rcases hrow.2 with ⟨rfl, rfl⟩ | ⟨g, off, cap, cur, rfl, hg, hnc, hcm, hfit, htake⟩
    · obtain rfl : xs = [] := List.eq_nil_of_length_eq_zero (by simpa using hrow.1)
      obtain ⟨g, cap, w', hrun, h2, h3, h4, h5⟩ := run_append_lies (P := P) w t ty w.heap.size e i z size bytes ht hi hz hsize hby hzs hsz (.slice none 0 0) 0 [] (World.ownsRow_nil w _ e size) ad m c news hr.1 hnews h1 hm h63 hbytes (Nat.le_refl _) _ rfl
      rcases h2.2 with ⟨hx, _⟩ | ⟨g', cap', cur', hv', hb', hh', h6, h7, h8, h9⟩
      · cases hx
      · refine ⟨_, w', hrun, ⟨h2.1, .inr ⟨g', 0, cap', cur', hv', hh', h6, h7, by omega, by simpa using h9⟩⟩, (Keeps.refl _ _).grown h3 (by simp [Value.ownBlock]), ?_⟩
        intro k hk
        have h10 := h2.lt k hk
        exact .inr h10.1
    · subst hsize
      by_cases hroom : n + m ≤ cap
      · have hn0 : n * i.size + news.length ≤ cap * i.size := by rw [hr.1, ← Nat.add_mul]; exact Nat.mul_le_mul_right _ hroom
        have hrun := run_append_room_cells (P := P) w t ty e i ht hi g off n cap ad m c news hr.1 hnews h1 hroom
          (fun j hj => by rw [hg.cell]; rw [Array.getElem?_eq_getElem (by omega)]; rfl) (fun j hj => hg.frozen _)
        have hb := blk_setCells news (off + n * i.size) w cur hg
        refine ⟨_, _, hrun, ⟨by rw [List.length_append, hrow.1, hr.1, Nat.add_mul], .inr ⟨g, off, cap, _, rfl, hb, hroom, hcm, by rw [size_putCells]; exact hfit, ?_⟩⟩, ?_, fun _ h => .inl h⟩
        · rw [putCells_toList _ _ _ (by omega)]
          have hl1 : (List.take (off + n * i.size) cur.toList).length = off + n * i.size := by rw [List.length_take, Array.length_toList]; omega
          have e1 : (List.take (off + n * i.size) cur.toList).drop off = xs := by rw [List.drop_take, Nat.add_sub_cancel_left]; exact htake
          have e2 : (xs ++ news).length = (n + m) * i.size := by rw [List.length_append, hrow.1, hr.1, Nat.add_mul]
          rw [List.append_assoc, List.drop_append_of_le_length (by rw [hl1]; omega), e1, ← List.append_assoc, List.take_append_of_le_length (by omega), List.take_of_length_le (by omega)]
        · exact ⟨os_setCells _ _ _ _, tape_setCells _ _ _ _, output_setCells _ _ _ _, by rw [size_setCells]; omega, fun k hk hF => heap_setCells _ _ _ _ _ (by simpa [Value.ownBlock] using hF)⟩
      · have hx : ∀ j u, xs[j]? = some u → w.cell? ((⟨g, off, none⟩ : Addr).add j) = some u := by
          obtain ⟨_, _, _, _, _, _, hc⟩ := hrow.form
          rename_i hv _ _ _
          injection hv with hA
          exact (hc _ hA.symm).2.2
        obtain ⟨v', w', hrun, h2, h3⟩ := run_append_arg_grows (P := P) w t ty e i z i.size bytes ht hi hz rfl hby hzs hsz ⟨g, off, none⟩ n cap xs hrow.1 hx ad m c news hr.1 hnews (by omega) h63 hbytes
        rcases h2.2 with ⟨_, hx⟩ | ⟨g', cap', cur', hv', hb', hh', h6, h7, h8, h9⟩
        · omega
        · refine ⟨v', w', hrun, ⟨h2.1, .inr ⟨g', 0, cap', cur', hv', hh', h6, h7, by omega, by simpa using h9⟩⟩, ((Keeps.refl _ _).grown h3 (by simp)), ?_⟩
          exact fun k hk => .inr (h2.lt k hk).1

theorem wpList_append_row {ops : Array Oper} {rest : List Oper} {o : Oper} {a : Act} {Q : Exit → Act → World → Prop} (hgd : o.guard = none) (s x : Operand) (t : TypeId)
    (ho : o.op = .call { callee := .builtin .append, args := #[s, x], argTypes := #[t, t] })
    (e : TypeId) (i : TypeInfo) (z : Value) (size bytes : Nat) (ht : P.underlying t = some (.slice e)) (hi : P.info? e = some i) (hz : i.zero = some z)
    (hsize : i.size = size) (hby : i.bytes = bytes) (hzs : z.cells.size = size) (hsz : 0 < size)
    (v : Value) (n : Nat) (xs : List Value) (hs : a.eval s = v) (hrow : Row w e size v n xs)
    (A : Option Addr) (m c : Nat) (news : List Value) (hx : a.eval x = .slice A m c) (hr : Reads w size A m news) (h1 : ∀ u ∈ news, u.oneCell' = true)
    (h63 : n + m ≤ maxLen) (hbytes : (n + m) * bytes ≤ 140737488355328)
    (h : ∀ v' w', Row w' e size v' (n + m) (xs ++ news) → Keeps v.ownBlock.toList w w' → (∀ k, v'.ownBlock = some k → v.ownBlock = some k ∨ w.heap.size ≤ k) → wpList P ops Q rest (a.put o.dst v') w') :
    wpList P ops Q (o :: rest) a w :=
  wpList_plain hgd fun _ hK => by
    obtain ⟨v', w', hrun, h2, h3, h4⟩ := run_append_row (P := P) w t o.type e i z size bytes ht hi hz hsize hby hzs hsz v n xs hrow A m c news hr h1 h63 hbytes
    unfold Oper.wp execOp
    simp only [ho, resolve, invoke, builtin, Sem.run_bind, Sem.run_pure, Result.andThen_ok, List.map_toArray, List.map_cons, List.map_nil, hs, hx, hrun]
    exact hK _ _ (h v' w' h2 h3 h4)

theorem step_append_row {ops : Array Oper} {o : Oper} {a : Act} {K : Act → World → Prop} {Q : Exit → Act → World → Prop} {E : Prop} (hgd : o.guard = none) (s x : Operand) (t : TypeId)
    (ho : o.op = .call { callee := .builtin .append, args := #[s, x], argTypes := #[t, t] })
    (e : TypeId) (i : TypeInfo) (z : Value) (size bytes : Nat) (ht : P.underlying t = some (.slice e)) (hi : P.info? e = some i) (hz : i.zero = some z)
    (hsize : i.size = size) (hby : i.bytes = bytes) (hzs : z.cells.size = size) (hsz : 0 < size)
    (v : Value) (n : Nat) (xs : List Value) (hs : a.eval s = v) (hrow : Row w e size v n xs)
    (A : Option Addr) (m c : Nat) (news : List Value) (hx : a.eval x = .slice A m c) (hr : Reads w size A m news) (h1 : ∀ u ∈ news, u.oneCell' = true)
    (h63 : n + m ≤ maxLen) (hbytes : (n + m) * bytes ≤ 140737488355328)
    (h : ∀ v' w', Row w' e size v' (n + m) (xs ++ news) → Keeps v.ownBlock.toList w w' → (∀ k, v'.ownBlock = some k → v.ownBlock = some k ∨ w.heap.size ≤ k) → K (a.put o.dst v') w') :
    if Region.wanted o (yielded ops a.tmps) = true then Oper.wp P o a w K Q else E := by
  have hw : Region.wanted o (yielded ops a.tmps) = true := by simp [Region.wanted, hgd]
  rw [if_pos hw]
  obtain ⟨v', w', hrun, h2, h3, h4⟩ := run_append_row (P := P) w t o.type e i z size bytes ht hi hz hsize hby hzs hsz v n xs hrow A m c news hr h1 h63 hbytes
  unfold Oper.wp execOp
  simp only [ho, resolve, invoke, builtin, Sem.run_bind, Sem.run_pure, Result.andThen_ok, List.map_toArray, List.map_cons, List.map_nil, hs, hx, hrun]
  exact h v' w' h2 h3 h4
end
/-- what an append of one new cell reads: the block just laid. -/
theorem reads_new (w : World) (u : Value) (t : TypeId) (k : Nat) : Reads ((w.drewN k).alloc (.cells #[u] t)) 1 (some ⟨w.heap.size, 0, none⟩) 1 [u] :=
  ⟨rfl, fun _ => ⟨_, rfl, fun j x hj => by
    have : j = 0 := by
      rcases j with _ | j
      · rfl
      · simp at hj
    subst this
    simp at hj
    subst hj
    have h := (Blk.new (w.drewN k) t #[u]).cell 0
    simpa [Addr.add] using h⟩⟩

/-! ### a slice whose cells are known, outside the blocks F -/
def CellsIn (w : World) (F : List Nat) (v : Value) (xs : List Value) : Prop :=
  ∃ A c, v = .slice A xs.length c ∧ xs.length ≤ c ∧ c ≤ maxLen ∧ (0 < xs.length → ∃ b o, A = some ⟨b, o, none⟩ ∧ b ∉ F ∧ ∀ j u, xs[j]? = some u → w.cell? ⟨b, o + j, none⟩ = some u)
section
variable {w w' : World} {F G : List Nat} {v : Value} {xs : List Value}
theorem CellsIn.keeps (h : CellsIn w F v xs) (hk : Keeps G w w') (hG : ∀ x ∈ G, x ∈ F ∨ w.heap.size ≤ x) : CellsIn w' F v xs := by
  obtain ⟨A, c, hv, h1, h2, h3⟩ := h
  refine ⟨A, c, hv, h1, h2, fun hp => ?_⟩
  obtain ⟨b, o, hA, hb, hc⟩ := h3 hp
  refine ⟨b, o, hA, hb, fun j u hu => ?_⟩
  have h4 := hc j u hu
  have hlt := World.block_lt_of_cell? w _ h4
  rw [hk.cell hlt (fun hx => (hG _ hx).elim hb (fun h5 => absurd hlt (Nat.not_lt.2 h5)))]
  exact h4
theorem CellsIn.mono (h : CellsIn w F v xs) (hG : ∀ x ∈ G, x ∈ F) : CellsIn w G v xs := by
  obtain ⟨A, c, hv, h1, h2, h3⟩ := h
  refine ⟨A, c, hv, h1, h2, fun hp => ?_⟩
  obtain ⟨b, o, hA, hb, hc⟩ := h3 hp
  exact ⟨b, o, hA, fun hx => hb (hG b hx), hc⟩
theorem CellsIn.alloc (h : CellsIn w F v xs) (o : Obj) : CellsIn (w.alloc o) F v xs := h.keeps (G := []) ((Keeps.refl [] w).alloc o) (by simp)
theorem CellsIn.drew (h : CellsIn w F v xs) : CellsIn w.drew F v xs := h
theorem CellsIn.drewN (h : CellsIn w F v xs) (n : Nat) : CellsIn (w.drewN n) F v xs := h
theorem CellsIn.shape (h : CellsIn w F v xs) : ∃ A c, v = .slice A xs.length c ∧ xs.length ≤ c ∧ c ≤ 9223372036854775807 := by
  obtain ⟨A, c, hv, h1, h2, h3⟩ := h
  exact ⟨A, c, hv, h1, by unfold maxLen at h2; omega⟩
theorem CellsIn.at_ {A : Option Addr} {n c : Nat} (h : CellsIn w F (.slice A n c) xs) (hn : 0 < xs.length) :
    ∃ b o, A = some ⟨b, o, none⟩ ∧ b ∉ F ∧ ∀ j u, xs[j]? = some u → w.cell? ⟨b, o + j, none⟩ = some u := by
  obtain ⟨A', c', hv, h1, h2, h3⟩ := h
  injection hv with hA
  subst hA
  exact h3 hn
theorem CellsIn.reads {A : Option Addr} {n c : Nat} (h : CellsIn w F (.slice A n c) xs) : n = xs.length ∧ Reads w 1 A n xs := by
  obtain ⟨A', c', hv, h1, h2, h3⟩ := h
  injection hv with hA hn hc
  subst hA hn hc
  refine ⟨rfl, by simp, fun hp => ?_⟩
  obtain ⟨b, o, hA, hb, hc⟩ := h3 hp
  exact ⟨_, hA, fun j u hu => by rw [Addr.add_lit]; exact hc j u hu⟩
theorem Row.cellsIn {e : TypeId} {n : Nat} (h : Row w e 1 v n xs) (hF : ∀ k, v.ownBlock = some k → k ∉ F) : CellsIn w F v xs := by
  have hl : xs.length = n := by have := h.1; omega
  rcases h.2 with ⟨rfl, rfl⟩ | ⟨g, off, cap, cur, rfl, hg, h1, h2, h3, h4⟩
  · exact ⟨none, 0, by rw [hl], by omega, by simp [maxLen], fun hp => by omega⟩
  · refine ⟨_, cap, by rw [hl], by omega, h2, fun _ => ⟨g, off, rfl, hF g rfl, fun j u hj => ?_⟩⟩
    rw [hg.cell]
    rw [← h4, List.getElem?_take, List.getElem?_drop] at hj
    split at hj
    · simpa using hj
    · cases hj
/-- the first k of them: what 's[:k]' gives. -/
theorem CellsIn.take {A : Option Addr} {n c k : Nat} (h : CellsIn w F (.slice A n c) xs) (hk : k ≤ n) : CellsIn w F (.slice A k c) (xs.take k) := by
  obtain ⟨A', c', hv, h1, h2, h3⟩ := h
  injection hv with hA hn hc
  subst hA hn hc
  have hl : (xs.take k).length = k := by rw [List.length_take]; omega
  refine ⟨A, c, by rw [hl], by omega, h2, fun hp => ?_⟩
  obtain ⟨b, o, hA, hb, hc⟩ := h3 (by omega)
  refine ⟨b, o, hA, hb, fun j u hu => hc j u ?_⟩
  rw [List.getElem?_take] at hu
  split at hu
  · exact hu
  · cases hu
end
end Go.Proofs.Ytkeffebcmajhmaa
/- More words for memory. -/
namespace Go.Proofs.Ytkeffebcmajhmaa
open Go.RowKit
/-- a row that has just been laid. -/
theorem CellsIn.newM (w : World) (F : List Nat) (xs : List Value) (t : TypeId) (m : Nat × Nat) (hF : ∀ x ∈ F, x < w.heap.size) (hl : xs.length ≤ 9223372036854775807) :
    CellsIn (w.alloc (.cells xs.toArray t m)) F (.slice (some ⟨w.heap.size, 0, none⟩) xs.length xs.length) xs := by
  refine ⟨_, _, rfl, Nat.le_refl _, by unfold maxLen; omega, fun _ => ⟨_, _, rfl, fun hx => by have := hF _ hx; omega, fun j u hu => ?_⟩⟩
  have h := heap_alloc_new w (.cells xs.toArray t m)
  unfold World.cell?
  rw [h]
  simpa using hu
theorem run_convert_const {P : Program} (w : World) (t e : TypeId) (C : Array Value) (n c H : Nat) (ht : P.underlying t = some (.slice e)) (he : P.underlying e = some (.int .u8)) (hH : w.heap.size = H) :
    (convert t t (.slice (some ⟨H, 0, none⟩) n c)).run P (w.alloc (.cells C e)) = .ok (.slice (some ⟨H, 0, none⟩) n c) (w.alloc (.cells C e (C.size, C.size + 1))) := by
  subst hH
  exact Lib.run_convert_bytes_const w t e C n c ht he
/-- what was there lies in no newer block. -/
theorem CellsIn.old {w : World} {F G : List Nat} {v : Value} {xs : List Value} (h : CellsIn w F v xs) (hG : ∀ x ∈ G, w.heap.size ≤ x) : CellsIn w G v xs := by
  obtain ⟨A, c, hv, h1, h2, h3⟩ := h
  refine ⟨A, c, hv, h1, h2, fun hp => ?_⟩
  obtain ⟨b, o, hA, hb, hc⟩ := h3 hp
  refine ⟨b, o, hA, fun hx => ?_, hc⟩
  have h4 : b < w.heap.size := World.block_lt_of_cell? w _ (hc 0 _ (List.getElem?_eq_getElem hp))
  have h5 := hG b hx
  omega
/-- what a call leaves behind draws. -/
theorem Keeps.pre {w w' : World} {F : List Nat} {n : Nat} (h : Keeps F (w.drewN n) w') : Keeps F w w' := ⟨h.os, h.tape, h.output, h.size, h.block⟩
theorem Keeps.pre1 {w w' : World} {F : List Nat} (h : Keeps F w.drew w') : Keeps F w w' := ⟨h.os, h.tape, h.output, h.size, h.block⟩
theorem Row.empty (w : World) (e : TypeId) : Row (w.alloc (.cells #[] e)) e 1 (.slice (some ⟨w.heap.size, 0, none⟩) 0 0) 0 [] :=
  ⟨by simp, .inr ⟨w.heap.size, 0, 0, #[], rfl, Blk.new w e #[], Nat.le_refl _, by simp [maxLen], by simp, by simp⟩⟩
theorem CellsIn.nil (w : World) (F : List Nat) : CellsIn w F (.slice none 0 0) [] := ⟨none, 0, rfl, by simp, by simp [maxLen], by simp⟩
/-- a slice of integers that came in. -/
theorem CellsIn.of_open {w : World} {k : IntKind} {x : Addr} {len cap : Nat} {zs : List Int} (hl : len ≤ cap) (hm : cap ≤ maxLen) (hz : zs.length = cap)
    (hcell : ∀ i, i < zs.length → w.cell? (x.add i) = some (.int k (zs.getD i 0))) : CellsIn w [] (.slice (some x) len cap) ((zs.take len).map (.int k)) := by
  have hlen : ((zs.take len).map (Value.int k)).length = len := by simp; omega
  refine ⟨some x, cap, by rw [hlen], by omega, hm, fun hp => ?_⟩
  obtain ⟨b, o, spot⟩ := x
  have h0 := hcell 0 (by omega)
  have hspot : spot = none := by simpa [Addr.add] using World.cell?_spot h0
  subst hspot
  refine ⟨b, o, rfl, by simp, fun j u hu => ?_⟩
  have hj : j < len := by
    have := (List.getElem?_eq_some_iff.1 hu).1
    omega
  have h1 := hcell j (by omega)
  rw [Addr.add_lit] at h1
  rw [h1, ← hu]
  simp [hj, show j < zs.length by omega]
end Go.Proofs.Ytkeffebcmajhmaa
/- Cuts of slices: 's[lo:hi]', the address under one name. -/
namespace Go.Proofs.Ytkeffebcmajhmaa
open Go.RowKit
/-- the address of a cut at lo. -/
def cutA (A : Option Addr) (lo cap size : Nat) : Option Addr := if cap = lo then A else A.map (·.add (lo * size))
theorem run_cut {P : Program} (w : World) (t e : TypeId) (i : TypeInfo) (size : Nat) (ht : P.underlying t = some (.slice e)) (hi : P.info? e = some i) (hs : i.size = size) (A : Option Addr) (len cap lo hi' : Nat) (l h : Int) (hl : l = lo) (hh : h = hi') (kl kh : IntKind)
    (h1 : lo ≤ hi') (h2 : hi' ≤ cap) : (Instr.slice t (.slice A len cap) (some (.int kl l)) (some (.int kh h)) none).run P w = .ok (.slice (cutA A lo cap size) (hi' - lo) (cap - lo)) w := by
  subst hl hh
  have he : P.elem t = e := by simp [Program.elem, ht]
  have hr := run_slice_lh (P := P) (w := w) t A len cap (by rw [he]; exact ht) kl kh (lo : Int) (hi' : Int) (by omega) (by omega) (by omega)
  rw [hr, he]
  simp [sizeOf, typeInfo, hi, hs, sliced, cutA]
theorem run_cut_lo {P : Program} (w : World) (t e : TypeId) (i : TypeInfo) (size : Nat) (ht : P.underlying t = some (.slice e)) (hi : P.info? e = some i) (hs : i.size = size) (A : Option Addr) (len cap lo : Nat) (l : Int) (hl : l = lo) (kl : IntKind)
    (h1 : lo ≤ len) : (Instr.slice t (.slice A len cap) (some (.int kl l)) none none).run P w = .ok (.slice (cutA A lo cap size) (len - lo) (cap - lo)) w := by
  subst hl
  have he : P.elem t = e := by simp [Program.elem, ht]
  have hr := run_slice_l (P := P) (w := w) t A len cap (by rw [he]; exact ht) kl (lo : Int) (by omega) (by omega)
  rw [hr, he]
  simp [sizeOf, typeInfo, hi, hs, sliced, cutA]
theorem CellsIn.cut {w : World} {F : List Nat} {xs : List Value} {A : Option Addr} {n c : Nat} (h : CellsIn w F (.slice A n c) xs) {lo hi : Nat} (h1 : lo ≤ hi) (h2 : hi ≤ n) :
    CellsIn w F (.slice (cutA A lo c 1) (hi - lo) (c - lo)) ((xs.drop lo).take (hi - lo)) := by
  obtain ⟨A', c', hv, h3, h4, h5⟩ := h
  injection hv with hA hn hc
  subst hA hn hc
  have hl : ((xs.drop lo).take (hi - lo)).length = hi - lo := by rw [List.length_take, List.length_drop]; omega
  refine ⟨cutA A lo c 1, c - lo, by rw [hl], by omega, by omega, fun hp => ?_⟩
  obtain ⟨b, o, rfl, hb, hcell⟩ := h5 (by omega)
  refine ⟨b, o + lo, ?_, hb, fun j u hu => ?_⟩
  · unfold cutA
    rw [if_neg (by omega), Option.map_some, Addr.add_lit, Nat.mul_one]
  · rw [List.getElem?_take] at hu
    split at hu
    · rw [List.getElem?_drop] at hu
      rw [Nat.add_assoc]
      exact hcell _ u hu
    · cases hu
theorem ownBlock_cut (A : Option Addr) (lo cap size n c : Nat) : (Value.slice (cutA A lo cap size) n c).ownBlock = (Value.slice A n c).ownBlock := by
  unfold cutA
  split
  · rfl
  · cases A with
    | none => rfl
    | some a =>
      simp only [Option.map_some, Value.ownBlock, Addr.add]
      split <;> rfl
theorem Row.cut {w : World} {e : TypeId} {size : Nat} {xs : List Value} {A : Option Addr} {n c : Nat} (h : Row w e size (.slice A n c) n xs) {lo : Nat} (h1 : lo ≤ n) :
    Row w e size (.slice (cutA A lo c size) (n - lo) (c - lo)) (n - lo) (xs.drop (lo * size)) := by
  obtain ⟨hl, h⟩ := h
  refine ⟨by rw [List.length_drop, hl, Nat.sub_mul], ?_⟩
  rcases h with ⟨hv, hn⟩ | ⟨g, off, cap, cur, hv, hg, h2, h3, h4, h5⟩
  · injection hv with hA _ hc
    subst hA hc
    left
    have hlo : lo = 0 := by omega
    subst hlo
    simp [cutA, hn]
  · injection hv with hA _ hc
    subst hA hc
    right
    by_cases hcl : c = lo
    · subst hcl
      refine ⟨g, off, 0, cur, ?_, hg, by omega, by omega, by omega, ?_⟩
      · simp [cutA]
      · have : n - c = 0 := by omega
        rw [this, Nat.zero_mul, List.take_zero]
        rw [List.drop_eq_nil_of_le]
        rw [hl]
        exact Nat.mul_le_mul_right _ (by omega)
    · refine ⟨g, off + lo * size, c - lo, cur, ?_, hg, by omega, by omega, ?_, ?_⟩
      · simp [cutA, hcl, Addr.add_lit]
      · rw [Nat.sub_mul]
        have : lo * size ≤ c * size := Nat.mul_le_mul_right _ (by omega)
        omega
      · rw [← h5, List.drop_take, List.drop_drop, Nat.sub_mul]
end Go.Proofs.Ytkeffebcmajhmaa
/- Bytes as values; rows of different element types lie apart. -/
namespace Go.Proofs.Ytkeffebcmajhmaa
open Go.RowKit
theorem Row.disj {w : World} {e e' : TypeId} {s s' : Nat} {v v' : Value} {n n' : Nat} {xs xs' : List Value} (h : Row w e s v n xs) (h' : Row w e' s' v' n' xs') (hne : e ≠ e') : ∀ k, v.ownBlock = some k → v'.ownBlock ≠ some k := by
  intro k hk hk'
  rcases h'.2 with ⟨rfl, _⟩ | ⟨g, off, cap, cur, rfl, hg, _⟩
  · simp [Value.ownBlock] at hk'
  · simp [Value.ownBlock] at hk'
    subst hk'
    exact h.blk_ne hg hne _ hk rfl
/-- what a cell holds behind a call that leaves it alone. -/
theorem cell_keep {w w' : World} {F : List Nat} {b o : Nat} {v : Value} (hk : Keeps F w w') (hb : b ∉ F) (h : w.cell? ⟨b, o, none⟩ = some v) : w'.cell? ⟨b, o, none⟩ = some v :=
  (World.cell?_of_block (w := w) (w' := w') (a := ⟨b, o, none⟩) (hk.block b (World.block_lt_of_cell? w _ h) hb)).trans h
theorem reads_blk2 {w : World} {g : Nat} {t : TypeId} {u v : Value} (h : Blk w g t #[u, v]) : Reads w 2 (some ⟨g, 0, none⟩) 1 [u, v] :=
  ⟨rfl, fun _ => ⟨_, rfl, fun j x hj => by
    rw [Addr.add_lit, Nat.zero_add, h.cell]
    simpa using hj⟩⟩
theorem reads_blk1 {w : World} {g : Nat} {t : TypeId} {u : Value} (h : Blk w g t #[u]) : Reads w 1 (some ⟨g, 0, none⟩) 1 [u] :=
  ⟨rfl, fun _ => ⟨_, rfl, fun j x hj => by
    rw [Addr.add_lit, Nat.zero_add, h.cell]
    simpa using hj⟩⟩
end Go.Proofs.Ytkeffebcmajhmaa
/- A row opened: its cells, a store into it. -/
namespace Go.Proofs.Ytkeffebcmajhmaa
open Go.RowKit
theorem Row.open_ {w : World} {e : TypeId} {size : Nat} {v : Value} {n : Nat} {xs : List Value} (h : Row w e size v n xs) (hn : 0 < n) :
    ∃ g off cap, v = .slice (some ⟨g, off, none⟩) n cap ∧ n ≤ cap ∧ g < w.heap.size ∧ (∀ j u, xs[j]? = some u → w.cell? ⟨g, off + j, none⟩ = some u) ∧ (∀ j, w.frozen? ⟨g, j, none⟩ = false) ∧
      (∀ j u, j < xs.length → Row (w.setCell ⟨g, off + j, none⟩ u) e size v n (xs.set j u)) := by
  obtain ⟨hl, h⟩ := h
  rcases h with ⟨rfl, rfl⟩ | ⟨g, off, cap, cur, rfl, hg, h1, h2, h3, h4⟩
  · omega
  · refine ⟨g, off, cap, rfl, h1, hg.lt, fun j u hu => ?_, hg.frozen, fun j u hj => ?_⟩
    · rw [hg.cell]
      rw [← h4, List.getElem?_take, List.getElem?_drop] at hu
      split at hu
      · simpa using hu
      · cases hu
    · refine ⟨by simpa using hl, .inr ⟨g, off, cap, _, rfl, hg.set_ (off + j) u, h1, h2, by simpa using h3, ?_⟩⟩
      rw [Array.toList_setIfInBounds, ← h4]
      rw [List.drop_set, if_neg (by omega), Nat.add_sub_cancel_left, List.take_set]
end Go.Proofs.Ytkeffebcmajhmaa
