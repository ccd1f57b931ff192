import Derived.Test.Qxb6500585aLoad
import Derived.Maps.AppendAt
namespace Go.Proofs.Qxb6500585a
open Go.RowKit Go.CommN Go.Conc

/-- A slice value holds the numbers l in world w. -/
def SliceAt (w : World) (ao : Option Addr) (l : List Int) : Prop :=
  ∀ j, j < l.length → ∃ b off, ao = some ⟨b, off, none⟩ ∧ w.cell? ⟨b, off + j, none⟩ = some (.int .i64 (l.getD j 0))

theorem SliceAt.alloc {w : World} {ao : Option Addr} {l : List Int} (h : SliceAt w ao l) (o : Obj) : SliceAt (w.alloc o) ao l := by
  intro j hj
  obtain ⟨b, off, h1, h2⟩ := h j hj
  exact ⟨b, off, h1, by rw [World.cell?_alloc_lt _ _ _ (World.block_lt_of_cell? _ _ h2)]; exact h2⟩

theorem SliceAt.drewN {w : World} {ao : Option Addr} {l : List Int} (h : SliceAt w ao l) (n : Nat) : SliceAt (w.drewN n) ao l := h

/-- The order of arrival so far. -/
def Ord (o : List UInt8) (ia ib : Nat) : Prop := o.length = ia + ib ∧ o.count 48 = ia ∧ ∀ c ∈ o, c = 48 ∨ c = 49
theorem Ord.zero {o : List UInt8} {ia ib : Nat} (h : Ord o ia ib) : Ord (o ++ [48]) (ia + 1) ib := by
  obtain ⟨h1, h2, h3⟩ := h
  refine ⟨by simp [h1]; omega, by simp [h2], ?_⟩
  intro c hc
  rcases List.mem_append.1 hc with hc | hc
  · exact h3 c hc
  · left; simpa using hc
theorem Ord.one {o : List UInt8} {ia ib : Nat} (h : Ord o ia ib) : Ord (o ++ [49]) ia (ib + 1) := by
  obtain ⟨h1, h2, h3⟩ := h
  refine ⟨by simp [h1]; omega, by simp [h2], ?_⟩
  intro c hc
  rcases List.mem_append.1 hc with hc | hc
  · exact h3 c hc
  · right; simpa using hc

def ints (l : List Int) : List Value := l.map (Value.int .i64)

/-- What holds at the loop's head. -/
structure Inv (w : World) (A B : List Int) (ia ib : Nat) (ga gb : Value) (o : List UInt8) (wr : World) : Prop where
  la : ia ≤ A.length
  lb : ib ≤ B.length
  ca : wr.heap[w.heap.size]? = some (.chan 6 (ints (A.drop ia)).toArray false A.length ia false)
  cb : wr.heap[w.heap.size + 1]? = some (.chan 6 (ints (B.drop ib)).toArray false B.length ib false)
  got : wr.heap[w.heap.size + 2]? = some (.cells #[ga, gb] 70)
  owna : wr.ownsRow (w.heap.size + 3) 3 1 ga ia (ints (A.take ia))
  ownb : wr.ownsRow (w.heap.size + 3) 3 1 gb ib (ints (B.take ib))
  apart : ga.ownBlock = none ∨ ga.ownBlock ≠ gb.ownBlock
  big : w.heap.size + 3 ≤ wr.heap.size
  below : Below w.heap.size w wr
  ord : Ord o ia ib

/-- What Pair leaves. -/
def PairPost (w : World) (A B : List Int) (e : Ending) (w' : World) : Prop := ∃ o : List UInt8, Ord o A.length B.length ∧
      e = .returned (.tuple #[.int .i64 ((A.length : Int) + B.length), .int .i64 (A.sum + B.sum), .string ⟨(hexs A ++ [59] ++ hexs B ++ [59] ++ o).toArray⟩, .int .i64 0]) ∧ Below w.heap.size w w'

/-- The loop's frame. -/
def pairFrame (N : Nat) (n sum i : Int) (o : List UInt8) (u : Nat → Value) : Act := ⟨#[u 0, u 1, u 2, u 3, u 4, u 5, u 6, u 7, u 8, u 9, .chan (some N), .chan (some (N + 1)), .int .i64 n, .pointer (some ⟨N + 1 + 1, 0, none⟩), .int .i64 sum, .string ⟨o.toArray⟩, .int .i64 i, u 17, u 18, u 19, u 20, u 21, u 22, u 23, u 24, u 25, u 26, u 27, u 28, u 29, u 30, u 31, u 32, u 33, u 34, u 35, u 36, u 37, u 38, u 39, u 40, u 41, u 42, u 43, u 44, u 45, u 46, u 47, u 48, u 49, u 50, u 51, u 52, u 53, u 54, u 55, u 56, u 57, u 58, u 59, u 60, u 61, u 62, u 63, u 64, u 65, u 66, u 67, u 68, u 69, u 70, u 71, u 72, u 73, u 74, u 75, u 76, u 77, u 78, u 79, u 80, u 81, u 82, u 83, u 84, u 85, u 86, u 87, u 88, u 89, u 90, u 91, u 92, u 93, u 94, u 95, u 96, u 97, u 98, u 99, u 100, u 101, u 102, u 103], []⟩
def PairI (w : World) (A B : List Int) (a' : Act) (wr : World) : Prop :=
  ∃ (ia ib : Nat) (ga gb : Value) (o : List UInt8), Inv w A B ia ib ga gb o wr ∧
    a' = pairFrame w.heap.size ((A.length : Int) + B.length) ((A.take ia).sum + (B.take ib).sum) ((ia : Int) + ib) o (fun i => a'.tmps.getD i undef)
def pairMu (a' : Act) (_ : World) : Nat := 12 - (intOf (a'.tmps.getD 16 undef)).toNat

theorem inv_start (w : World) (A B : List Int) : Inv w A B 0 0 (.slice none 0 0) (.slice none 0 0) [] (((w.alloc (chanOf A A.length)).alloc (chanOf B B.length)).alloc (.cells #[.slice none 0 0, .slice none 0 0] 70)) where
  la := Nat.zero_le _
  lb := Nat.zero_le _
  ca := by
    rw [Below.heap_alloc _ _ _ (by simp; omega), Below.heap_alloc _ _ _ (by simp), heap_alloc_new]; simp [chanOf, ints]
  cb := by
    have := heap_alloc_new (w.alloc (chanOf A A.length)) (chanOf B B.length)
    rw [World.size_alloc] at this
    rw [Below.heap_alloc _ _ _ (by simp), this]; simp [chanOf, ints]
  got := by
    have := heap_alloc_new ((w.alloc (chanOf A A.length)).alloc (chanOf B B.length)) (.cells #[.slice none 0 0, .slice none 0 0] 70)
    rw [World.size_alloc, World.size_alloc] at this
    exact this
  owna := ⟨rfl, .inl ⟨rfl, rfl⟩⟩
  ownb := ⟨rfl, .inl ⟨rfl, rfl⟩⟩
  apart := .inl rfl
  big := by simp
  below := (((Below.refl _ _).alloc (Nat.le_refl _) _).alloc (by simp) _).alloc (by simp; omega) _
  ord := ⟨rfl, rfl, by simp⟩

theorem ints_head (A : List Int) (ia : Nat) (h : ia < A.length) : (ints (A.drop ia)).toArray.getD 0 undef = .int .i64 (A.getD ia 0) := by
  simp [ints, List.getD, h]
theorem ints_tail (A : List Int) (ia : Nat) : (ints (A.drop ia)).toArray.extract 1 (ints (A.drop ia)).toArray.size = (ints (A.drop (ia + 1))).toArray := by
  simp only [ints, List.extract_toArray, List.size_toArray, List.extract_eq_take_drop, List.map_drop, List.drop_drop]
  rw [List.take_of_length_le (by simp; omega)]

/-- Behind a receive from the first channel: its head is gone; all else stands. -/
structure Mid (w : World) (A B : List Int) (ja jb ia ib : Nat) (ga gb : Value) (o : List UInt8) (wr : World) : Prop where
  la : ja ≤ A.length
  lb : jb ≤ B.length
  ca : wr.heap[w.heap.size]? = some (.chan 6 (ints (A.drop ja)).toArray false A.length ja false)
  cb : wr.heap[w.heap.size + 1]? = some (.chan 6 (ints (B.drop jb)).toArray false B.length jb false)
  got : wr.heap[w.heap.size + 2]? = some (.cells #[ga, gb] 70)
  owna : wr.ownsRow (w.heap.size + 3) 3 1 ga ia (ints (A.take ia))
  ownb : wr.ownsRow (w.heap.size + 3) 3 1 gb ib (ints (B.take ib))
  apart : ga.ownBlock = none ∨ ga.ownBlock ≠ gb.ownBlock
  big : w.heap.size + 3 ≤ wr.heap.size
  below : Below w.heap.size w wr
  ord : Ord o ia ib

theorem heap_setChan_ne (w : World) (c k cap : Nat) (buf : Array Value) (cl : Bool) (s r : Nat) (tm : Bool) (h : c ≠ k) : (w.setChan c cap buf cl s r tm).heap[k]? = w.heap[k]? := by
  simp [World.setChan, Array.getElem?_setIfInBounds_ne h]

theorem ownsRow_block {w w' : World} {base : Nat} {e : TypeId} {size : Nat} {v : Value} {n : Nat} {xs : List Value} (h : w.ownsRow base e size v n xs) (hb : ∀ k, base ≤ k → w'.heap[k]? = w.heap[k]?) : w'.ownsRow base e size v n xs := by
  obtain ⟨h1, h2⟩ := h
  refine ⟨h1, ?_⟩
  rcases h2 with h2 | ⟨g, cap, cur, hv, hg, hh, r⟩
  · exact Or.inl h2
  · exact Or.inr ⟨g, cap, cur, hv, hg, by rw [hb g hg]; exact hh, r⟩

theorem Inv.recv0 {w : World} {A B : List Int} {ia ib : Nat} {ga gb : Value} {o : List UInt8} {wr : World} (h : Inv w A B ia ib ga gb o wr) (hia : ia < A.length) (w₂ : World) (hw : w₂ = wr ∨ w₂ = wr.drew) :
    Mid w A B (ia + 1) ib ia ib ga gb o (w₂.setChan w.heap.size 6 ((ints (A.drop ia)).toArray.extract 1 (ints (A.drop ia)).toArray.size) false A.length (ia + 1) false) := by
  have hh : w₂.heap = wr.heap := by rcases hw with rfl | rfl <;> rfl
  have hbl : Below w.heap.size w w₂ := by rcases hw with rfl | rfl; exact h.below; exact h.below.drew
  have hsz : w₂.heap.size = wr.heap.size := by rw [hh]
  have hbig := h.big
  refine ⟨hia, h.lb, ?_, ?_, ?_, ?_, ?_, h.apart, ?_, ?_, h.ord⟩
  · rw [heap_setChan _ _ _ _ _ _ _ _ (by omega), ints_tail]
  · rw [heap_setChan_ne _ _ _ _ _ _ _ _ _ (by omega), hh]; exact h.cb
  · rw [heap_setChan_ne _ _ _ _ _ _ _ _ _ (by omega), hh]; exact h.got
  · exact ownsRow_block h.owna fun k hk => by rw [heap_setChan_ne _ _ _ _ _ _ _ _ _ (by omega), hh]
  · exact ownsRow_block h.ownb fun k hk => by rw [heap_setChan_ne _ _ _ _ _ _ _ _ _ (by omega), hh]
  · rw [size_setChan]; omega
  · exact below_setChan hbl (Nat.le_refl _) _ _ _ _ _ _

theorem Inv.recv1 {w : World} {A B : List Int} {ia ib : Nat} {ga gb : Value} {o : List UInt8} {wr : World} (h : Inv w A B ia ib ga gb o wr) (hib : ib < B.length) (w₂ : World) (hw : w₂ = wr ∨ w₂ = wr.drew) :
    Mid w A B ia (ib + 1) ia ib ga gb o (w₂.setChan (w.heap.size + 1) 6 ((ints (B.drop ib)).toArray.extract 1 (ints (B.drop ib)).toArray.size) false B.length (ib + 1) false) := by
  have hh : w₂.heap = wr.heap := by rcases hw with rfl | rfl <;> rfl
  have hbl : Below w.heap.size w w₂ := by rcases hw with rfl | rfl; exact h.below; exact h.below.drew
  have hsz : w₂.heap.size = wr.heap.size := by rw [hh]
  have hbig := h.big
  refine ⟨h.la, hib, ?_, ?_, ?_, ?_, ?_, h.apart, ?_, ?_, h.ord⟩
  · rw [heap_setChan_ne _ _ _ _ _ _ _ _ _ (by omega), hh]; exact h.ca
  · rw [heap_setChan _ _ _ _ _ _ _ _ (by omega), ints_tail]
  · rw [heap_setChan_ne _ _ _ _ _ _ _ _ _ (by omega), hh]; exact h.got
  · exact ownsRow_block h.owna fun k hk => by rw [heap_setChan_ne _ _ _ _ _ _ _ _ _ (by omega), hh]
  · exact ownsRow_block h.ownb fun k hk => by rw [heap_setChan_ne _ _ _ _ _ _ _ _ _ (by omega), hh]
  · rw [size_setChan]; omega
  · exact below_setChan hbl (by omega) _ _ _ _ _ _

theorem own_ge {w : World} {base : Nat} {e : TypeId} {size : Nat} {v : Value} {n : Nat} {xs : List Value} (h : w.ownsRow base e size v n xs) {k : Nat} (hk : v.ownBlock = some k) : base ≤ k ∧ k < w.heap.size := by
  obtain ⟨_, h2⟩ := h
  rcases h2 with ⟨rfl, _⟩ | ⟨g, cap, cur, rfl, hg, hh, r⟩
  · simp [Value.ownBlock] at hk
  · simp only [Value.ownBlock, Option.some.injEq] at hk
    subst hk
    refine ⟨hg, ?_⟩
    rcases Nat.lt_or_ge g w.heap.size with h | h
    · exact h
    · simp [Array.getElem?_eq_none h] at hh

theorem own_shape {w : World} {base : Nat} {e : TypeId} {size : Nat} {v : Value} {n : Nat} {xs : List Value} (h : w.ownsRow base e size v n xs) (hn : 0 < n) : ∃ g cap, v = .slice (some ⟨g, 0, none⟩) n cap := by
  obtain ⟨_, h2⟩ := h
  rcases h2 with ⟨rfl, h0⟩ | ⟨g, cap, cur, rfl, hg, hh, r⟩
  · omega
  · exact ⟨g, cap, rfl⟩

theorem own_slice {w : World} {base : Nat} {v : Value} {l : List Int} (h : w.ownsRow base 3 1 v l.length (ints l)) : ∃ ao cap, v = .slice ao l.length cap ∧ SliceAt w ao l := by
  obtain ⟨_, h2⟩ := h
  rcases h2 with ⟨rfl, h0⟩ | ⟨g, cap, cur, rfl, hg, hh, hnc, hcm, hsz, htk⟩
  · exact ⟨none, 0, by rw [h0], fun j hj => by omega⟩
  · refine ⟨some ⟨g, 0, none⟩, cap, rfl, fun j hj => ⟨g, 0, rfl, ?_⟩⟩
    have e : cur[0 + j]? = (ints l)[j]? := by
      rw [← htk, Nat.zero_add, Nat.mul_one, List.getElem?_take, if_pos hj]; simp
    simp only [World.cell?, hh]
    simp only [Option.isSome_none, Bool.false_eq_true, if_false]
    rw [e]
    simp [ints, List.getD, hj]

section
variable {w : World} {A B : List Int} {ja jb ia ib : Nat} {ga gb : Value} {o : List UInt8} {w3 w1 : World}
/-- What stands behind an append onto 'got[0]' (or, with the two changed over, 'got[1]'). -/
theorem Mid.after0 (h : Mid w A B ja jb ia ib ga gb o w3) {ob : Obj} (hg : (w3.alloc ob).grownBy w1 ga.ownBlock) : ∀ k, k < w.heap.size + 3 → w1.heap[k]? = w3.heap[k]? := by
  intro k hk
  have hb := h.big
  rw [hg.block k (by simp; omega) (fun e => by have := own_ge h.owna e.symm; omega), Below.heap_alloc _ _ _ (by omega)]
theorem Mid.after1 (h : Mid w A B ja jb ia ib ga gb o w3) {ob : Obj} (hg : (w3.alloc ob).grownBy w1 gb.ownBlock) : ∀ k, k < w.heap.size + 3 → w1.heap[k]? = w3.heap[k]? := by
  intro k hk
  have hb := h.big
  rw [hg.block k (by simp; omega) (fun e => by have := own_ge h.ownb e.symm; omega), Below.heap_alloc _ _ _ (by omega)]
theorem got_cells {N : Nat} {ga gb : Value} {w1 : World} (h : w1.heap[N + 2]? = some (.cells #[ga, gb] 70)) :
    w1.cell? ⟨N + 1 + 1, 0, none⟩ = some ga ∧ w1.cell? ⟨N + 1 + 1, 1, none⟩ = some gb ∧ w1.frozen? ⟨N + 1 + 1, 0, none⟩ = false ∧ w1.frozen? ⟨N + 1 + 1, 1, none⟩ = false := by
  have h' : w1.heap[N + 1 + 1]? = some (.cells #[ga, gb] 70) := h
  simp [World.cell?, World.frozen?, h']

theorem heap_setCell_same (W : World) (b : Nat) (i : Nat) (c : Array Value) (t : TypeId) (v : Value) (h : W.heap[b]? = some (.cells c t)) : (W.setCell ⟨b, i, none⟩ v).heap[b]? = some (.cells (c.setIfInBounds i v) t) := by
  simp [World.setCell, Array.getElem?_modify, h]

theorem Mid.next0 (h : Mid w A B (ia + 1) ib ia ib ga gb o w3) {v' : Value} {ob : Obj} (hia : ia < A.length) (hown : w1.ownsRow (w.heap.size + 3) 3 1 v' (ia + 1) (ints (A.take ia) ++ [.int .i64 (A.getD ia 0)]))
    (hg : (w3.alloc ob).grownBy w1 ga.ownBlock) (hloc : v'.ownBlock = ga.ownBlock ∨ v'.ownBlock = some (w3.alloc ob).heap.size) :
    Inv w A B (ia + 1) ib v' gb (o ++ [48]) (w1.setCell ⟨w.heap.size + 1 + 1, 0, none⟩ v') := by
  have ha := h.after0 hg
  have hb := h.big
  have hsz := hg.size
  simp only [World.size_alloc] at hsz hloc
  have hne : ∀ k, gb.ownBlock = some k → v'.ownBlock ≠ some k := by
    intro k hk e
    have := own_ge h.ownb hk
    rcases hloc with hl | hl
    · rw [hl] at e
      rcases h.apart with hp | hp
      · rw [hp] at e; cases e
      · exact hp (e.trans hk.symm)
    · rw [hl] at e; simp at e; omega
  have hap : v'.ownBlock = none ∨ v'.ownBlock ≠ gb.ownBlock := by
    cases hk : gb.ownBlock with
    | none => cases hv : v'.ownBlock <;> simp
    | some k => exact .inr (hne k hk)
  have hgbne : gb.ownBlock = none ∨ gb.ownBlock ≠ ga.ownBlock := by
    rcases h.apart with hp | hp
    · cases hk : gb.ownBlock with
      | none => exact .inl rfl
      | some k => rw [hp]; simp
    · exact .inr (fun e => hp e.symm)
  refine ⟨hia, h.lb, ?_, ?_, ?_, ?_, ?_, hap, ?_, ?_, h.ord.zero⟩
  · rw [Below.heap_setCell _ _ _ _ (by simp; omega), ha _ (by omega)]; exact h.ca
  · rw [Below.heap_setCell _ _ _ _ (by simp), ha _ (by omega)]; exact h.cb
  · have := heap_setCell_same w1 (w.heap.size + 1 + 1) 0 #[ga, gb] 70 v' (by rw [ha _ (by omega)]; exact h.got)
    exact this
  · rw [take_snoc A ia hia]
    simp only [ints, List.map_append, List.map_cons, List.map_nil] at hown ⊢
    exact ownsRow_setCell_below hown (by simp) _
  · exact ownsRow_setCell_below ((h.ownb.alloc _).kept hg hgbne) (by simp) _
  · simp; omega
  · exact ((h.below.alloc (by omega) ob).grown hg (by simp; omega) (fun k hk => by have := own_ge h.owna hk; omega)).setCell (by simp; omega) _

theorem Mid.next1 (h : Mid w A B ia (ib + 1) ia ib ga gb o w3) {v' : Value} {ob : Obj} (hib : ib < B.length) (hown : w1.ownsRow (w.heap.size + 3) 3 1 v' (ib + 1) (ints (B.take ib) ++ [.int .i64 (B.getD ib 0)]))
    (hg : (w3.alloc ob).grownBy w1 gb.ownBlock) (hloc : v'.ownBlock = gb.ownBlock ∨ v'.ownBlock = some (w3.alloc ob).heap.size) :
    Inv w A B ia (ib + 1) ga v' (o ++ [49]) (w1.setCell ⟨w.heap.size + 1 + 1, 1, none⟩ v') := by
  have ha := h.after1 hg
  have hb := h.big
  have hsz := hg.size
  simp only [World.size_alloc] at hsz hloc
  have hne : ∀ k, ga.ownBlock = some k → v'.ownBlock ≠ some k := by
    intro k hk e
    have := own_ge h.owna hk
    rcases hloc with hl | hl
    · rw [hl] at e
      rcases h.apart with hp | hp
      · rw [hp] at hk; cases hk
      · exact hp (hk.trans e.symm)
    · rw [hl] at e; simp at e; omega
  have hap : ga.ownBlock = none ∨ ga.ownBlock ≠ v'.ownBlock := by
    cases hk : ga.ownBlock with
    | none => exact .inl rfl
    | some k => exact .inr (fun e => hne k hk e.symm)
  refine ⟨h.la, hib, ?_, ?_, ?_, ?_, ?_, hap, ?_, ?_, h.ord.one⟩
  · rw [Below.heap_setCell _ _ _ _ (by simp; omega), ha _ (by omega)]; exact h.ca
  · rw [Below.heap_setCell _ _ _ _ (by simp), ha _ (by omega)]; exact h.cb
  · have := heap_setCell_same w1 (w.heap.size + 1 + 1) 1 #[ga, gb] 70 v' (by rw [ha _ (by omega)]; exact h.got)
    exact this
  · exact ownsRow_setCell_below ((h.owna.alloc _).kept hg h.apart) (by simp) _
  · rw [take_snoc B ib hib]
    simp only [ints, List.map_append, List.map_cons, List.map_nil] at hown ⊢
    exact ownsRow_setCell_below hown (by simp) _
  · simp; omega
  · exact ((h.below.alloc (by omega) ob).grown hg (by simp; omega) (fun k hk => by have := own_ge h.ownb hk; omega)).setCell (by simp; omega) _
end

theorem sum_bd (A : List Int) (h : ∀ j, 0 ≤ A.getD j 0 ∧ A.getD j 0 ≤ 255) : 0 ≤ A.sum ∧ A.sum ≤ 255 * A.length := by
  induction A with
  | nil => simp
  | cons a A ih =>
    have h0 := h 0
    have := ih (fun j => by have := h (j + 1); simpa using this)
    simp at h0 ⊢
    omega
theorem sum_take_bd (A : List Int) (h : ∀ j, 0 ≤ A.getD j 0 ∧ A.getD j 0 ≤ 255) (hl : A.length ≤ 6) (k : Nat) : 0 ≤ (A.take k).sum ∧ (A.take k).sum ≤ 1530 := by
  have := sum_bd (A.take k) (fun j => by
    by_cases hj : j < k
    · have e : (A.take k).getD j 0 = A.getD j 0 := by simp [List.getD, hj]
      rw [e]; exact h j
    · have e : (A.take k).getD j 0 = 0 := by simp [List.getD, List.getElem?_take, hj]
      rw [e]; omega)
  have hlen : (A.take k).length ≤ A.length := by simp; omega
  omega

theorem str5 (a b o : List UInt8) : (⟨a.toArray⟩ : ByteArray) ++ ⟨#[59]⟩ ++ ⟨b.toArray⟩ ++ ⟨#[59]⟩ ++ ⟨o.toArray⟩ = ⟨(a ++ [59] ++ b ++ [59] ++ o).toArray⟩ := by
  have e : (⟨#[59]⟩ : ByteArray) = ⟨([59] : List UInt8).toArray⟩ := rfl
  rw [e, str_append, str_append, str_append, str_append]

set_option maxHeartbeats 1000000 in
theorem pair_any (m s t : Nat) (hs : s < 3) (ht : t < 3) (A B : List Int) (aoa aob : Option Addr) (capa capb : Nat) (w : World)
    (hA : A.length ≤ 6) (hB : B.length ≤ 6) (hAv : ∀ j, 0 ≤ A.getD j 0 ∧ A.getD j 0 ≤ 255) (hBv : ∀ j, 0 ≤ B.getD j 0 ∧ B.getD j 0 ≤ 255)
    (hcs : w.cell? ⟨m, s, none⟩ = some (.slice aoa A.length capa)) (hct : w.cell? ⟨m, t, none⟩ = some (.slice aob B.length capb))
    (ha : SliceAt w aoa A) (hb : SliceAt w aob B) :
    Calls Try.prog 36 #[.pointer (some ⟨m, 0, none⟩), .int .i64 s, .int .i64 t] w (PairPost w A B) := by
  have hs' : (s : Int) < 3 := by omega
  have ht' : (t : Int) < 3 := by omega
  have hmw : m < w.heap.size := World.block_lt_of_cell? _ _ hcs
  refine calls_of_wpN Try.func36 rfl ?_
  simp only [Try.ntmps36, List.size_toArray, List.length_cons, List.length_nil, Nat.reduceAdd, Nat.reduceSub, Array.replicate_succ, Array.replicate_zero, List.push_toArray, List.append_toArray, List.nil_append, List.cons_append]
  refine wpN_seq_wp ?_
  go_wp2
  refine wpN_seq_wp ?_
  go_wp2
  refine wpN_seq_wp ?_
  go_wp2_with (go_at_call 42; refine (fill_any aoa A.length capa A rfl hA _ ha).mono ?_; rintro e w' ⟨rfl, rfl⟩)
  refine wpN_seq_wp ?_
  go_wp2_with (go_at_call 42; refine (fill_any aob B.length capb B rfl hB _ (hb.alloc _)).mono ?_; rintro e w' ⟨rfl, rfl⟩)
  have hl1 := fun ty => run_len_chan (P := Try.prog) (w := (w.alloc (chanOf A A.length)).alloc (chanOf B B.length)) 46 ty Try.underlying46 (c := w.heap.size) (by rw [Below.heap_alloc _ _ _ (by simp)]; exact heap_alloc_new w _)
  have hl2 := fun ty => run_len_chan (P := Try.prog) (w := (w.alloc (chanOf A A.length)).alloc (chanOf B B.length)) 46 ty Try.underlying46 (c := w.heap.size + 1) (by have := heap_alloc_new (w.alloc (chanOf A A.length)) (chanOf B B.length); rw [World.size_alloc] at this; exact this)
  simp only [List.take_length, List.size_toArray, List.length_map] at hl1 hl2
  refine wpN_seq_wp ?_
  go_wp2
  clear hl1 hl2
  refine wpN_seq_wp ?_
  go_wp2
  refine wpN_seq_wp ?_
  go_wp2
  refine wpN_seq_wp ?_
  go_wp2
  refine wpN_seq (wpN_seq_wp ?_)
  go_wp2
  refine wpN_block ?_
  refine wpN_loop (PairI w A B)
    pairMu ⟨0, 0, .slice none 0 0, .slice none 0 0, [], inv_start w A B, rfl⟩ ?_
  rintro a' wr ⟨ia, ib, ga, gb, o, hI, ha'⟩
  generalize (fun i => a'.tmps.getD i undef) = u at ha'
  subst ha'
  by_cases hlt : ia + ib < A.length + B.length
  · have hlt' : (ia : Int) + ib < (A.length : Int) + B.length := by omega
    unfold pairFrame
    refine wpN_seq_hide fun K Q' hK hQ => ?_
    go_wp2
    refine hK.out _ _ ?_
    clear hK hQ K Q'
    refine wpN_seq (wpN_block (wpN_seq_hide fun K Q' hK hQ => ?_))
    go_wp2
    refine hK.out _ _ ?_
    clear hK hQ K Q'
    refine wpN_seq (wpN_region ?_)
    show wpR _ _ _ [0, 1, 2, 3] _ _
    refine wpR_select2 (c := w.heap.size) (d := w.heap.size + 1) (blocking := true) (zc := .int .i64 0) (zd := .int .i64 0) (w₁ := wr) rfl rfl (by simp [go_sem, execOp, Act.eval, rcase]) hI.ca hI.cb (by simp [ints]; omega) ?_ ?_
    · intro hsz w₂ hw₂
      have hia : ia < A.length := by have := hsz; simp [ints] at this; omega
      have hI2 := hI.recv0 hia w₂ hw₂
      rw [ints_head A ia hia]
      generalize hw3 : w₂.setChan w.heap.size 6 ((ints (A.drop ia)).toArray.extract 1 (ints (A.drop ia)).toArray.size) false A.length (ia + 1) false = w3 at hI2 ⊢
      clear hw3 hw₂ hsz
      refine wpR_value rfl rfl (v := .int .i64 0) (w' := w3) (by simp [go_sem, execOp, Act.eval, Act.put]) ?_
      refine wpR_value rfl rfl (v := .bool true) (w' := w3) (by simp [go_sem, execOp, Act.eval, Act.put]) ?_
      refine wpR_value rfl rfl (v := .bool false) (w' := w3) (by simp [go_sem, execOp, Act.eval, Act.put]) ?_
      refine wpR_nil ?_
      simp only [Exit.then, Act.put, List.setIfInBounds_toArray]
      refine wpN_hide fun Q' hQ => ?_
      obtain ⟨hg0, hg1, hz0', hz1'⟩ := got_cells hI2.got
      have hbig := hI2.big
      have HS : Hid ((A.take (ia + 1)).sum + (B.take ib).sum = (A.take ia).sum + (B.take ib).sum + A.getD ia 0) := by
        show _ = _
        rw [take_snoc A ia hia]; simp; omega
      have hv := hAv ia
      have hs1 := sum_take_bd A hAv hA ia
      have hs2 := sum_take_bd B hBv hB ib
      have hS : 0 ≤ (A.take ia).sum + (B.take ib).sum ∧ (A.take ia).sum + (B.take ib).sum ≤ 3060 := by omega
      have hol : o.length ≤ 12 := by have := hI2.ord.1; omega
      have HN : Hid (∀ (v' : Value) (w1 : World) (ob : Obj), _) := fun v' w1 ob => hI2.next0 (v' := v') (w1 := w1) (ob := ob) hia
      generalize A.getD ia 0 = v at hv HS HN ⊢
      generalize (A.take ia).sum + (B.take ib).sum = S at HS hS ⊢
      obtain ⟨i0, hi, hz0, hz1, hz2⟩ := info_parts info3
      go_wp2_with (at_builtin; refine wpList_append_own_at _ rfl _ _ 44 rfl (w.heap.size + 3) 3 i0 (.int .i64 0) 1 8 Try.underlying44 hi hz0 hz1 hz2 rfl (by decide) ga ia _ rfl (hI2.owna.alloc _) ⟨w3.heap.size, 0, none⟩ 1 1 [.int .i64 v] rfl rfl (cell_one_new _ _ _) (ints_oneCell .i64 [v]) (by unfold maxLen; omega) (by omega) (by simp; omega) ?_; intro v' w1 hown' hgrow hnil hloc; obtain ⟨g', cap', hv'⟩ := own_shape hown' (by omega); subst hv'; obtain ⟨hq0, hq1, hq2, hq3⟩ := got_cells ((hI2.after0 hgrow _ (by omega)).trans hI2.got))
      have HI := HN.out _ _ _ hown' hgrow hloc
      clear HN hown' hgrow hloc hnil hq0 hq1 hq2 hq3 hI2 hg0 hg1 hz0' hz1' hi hz0 hz1 hz2
      refine hQ.out _ _ _ ?_
      clear hQ Q'
      change wpN _ _ _ _ _
      rw [← HS.out, show ({ data := o.toArray } : ByteArray) ++ { data := #[48] } = ⟨(o ++ [48]).toArray⟩ from str_append o [48]]
      refine wpN_hide fun Q' hQ => ?_
      go_wp2
      refine hQ.out _ _ _ ?_
      clear hQ Q'
      rw [show (ia : Int) + ib + 1 = ((ia + 1 : Nat) : Int) + ib from by omega]
      refine ⟨⟨ia + 1, ib, _, gb, o ++ [48], HI, rfl⟩, ?_⟩
      simp [pairMu, intOf]
      omega
    · intro hsz w₂ hw₂
      have hib : ib < B.length := by have := hsz; simp [ints] at this; omega
      have hI2 := hI.recv1 hib w₂ hw₂
      rw [ints_head B ib hib]
      generalize hw3 : w₂.setChan (w.heap.size + 1) 6 ((ints (B.drop ib)).toArray.extract 1 (ints (B.drop ib)).toArray.size) false B.length (ib + 1) false = w3 at hI2 ⊢
      clear hw3 hw₂ hsz
      refine wpR_value rfl rfl (v := .int .i64 1) (w' := w3) (by simp [go_sem, execOp, Act.eval, Act.put]) ?_
      refine wpR_value rfl rfl (v := .bool false) (w' := w3) (by simp [go_sem, execOp, Act.eval, Act.put]) ?_
      refine wpR_value rfl rfl (v := .bool true) (w' := w3) (by simp [go_sem, execOp, Act.eval, Act.put]) ?_
      refine wpR_nil ?_
      simp only [Exit.then, Act.put, List.setIfInBounds_toArray]
      refine wpN_hide fun Q' hQ => ?_
      obtain ⟨hg0, hg1, hz0', hz1'⟩ := got_cells hI2.got
      have hbig := hI2.big
      have HS : Hid ((A.take ia).sum + (B.take (ib + 1)).sum = (A.take ia).sum + (B.take ib).sum + B.getD ib 0) := by
        show _ = _
        rw [take_snoc B ib hib]; simp; omega
      have hv := hBv ib
      have hs1 := sum_take_bd A hAv hA ia
      have hs2 := sum_take_bd B hBv hB ib
      have hS : 0 ≤ (A.take ia).sum + (B.take ib).sum ∧ (A.take ia).sum + (B.take ib).sum ≤ 3060 := by omega
      have hol : o.length ≤ 12 := by have := hI2.ord.1; omega
      have HN : Hid (∀ (v' : Value) (w1 : World) (ob : Obj), _) := fun v' w1 ob => hI2.next1 (v' := v') (w1 := w1) (ob := ob) hib
      generalize B.getD ib 0 = v at hv HS HN ⊢
      generalize (A.take ia).sum + (B.take ib).sum = S at HS hS ⊢
      obtain ⟨i0, hi, hz0, hz1, hz2⟩ := info_parts info3
      go_wp2_with (at_builtin; refine wpList_append_own_at _ rfl _ _ 44 rfl (w.heap.size + 3) 3 i0 (.int .i64 0) 1 8 Try.underlying44 hi hz0 hz1 hz2 rfl (by decide) gb ib _ rfl (hI2.ownb.alloc _) ⟨w3.heap.size, 0, none⟩ 1 1 [.int .i64 v] rfl rfl (cell_one_new _ _ _) (ints_oneCell .i64 [v]) (by unfold maxLen; omega) (by omega) (by simp; omega) ?_; intro v' w1 hown' hgrow hnil hloc; obtain ⟨g', cap', hv'⟩ := own_shape hown' (by omega); subst hv'; obtain ⟨hq0, hq1, hq2, hq3⟩ := got_cells ((hI2.after1 hgrow _ (by omega)).trans hI2.got))
      have HI := HN.out _ _ _ hown' hgrow hloc
      clear HN hown' hgrow hloc hnil hq0 hq1 hq2 hq3 hI2 hg0 hg1 hz0' hz1' hi hz0 hz1 hz2
      refine hQ.out _ _ _ ?_
      clear hQ Q'
      change wpN _ _ _ _ _
      rw [← HS.out, show ({ data := o.toArray } : ByteArray) ++ { data := #[49] } = ⟨(o ++ [49]).toArray⟩ from str_append o [49]]
      refine wpN_hide fun Q' hQ => ?_
      go_wp2
      refine hQ.out _ _ _ ?_
      clear hQ Q'
      rw [show (ia : Int) + ib + 1 = (ia : Int) + ((ib + 1 : Nat) : Int) from by omega]
      refine ⟨⟨ia, ib + 1, ga, _, o ++ [49], HI, rfl⟩, ?_⟩
      simp [pairMu, intOf]
      omega
  · have hla := hI.la
    have hlb := hI.lb
    obtain rfl : ia = A.length := by omega
    obtain rfl : ib = B.length := by omega
    have hown := hI.owna
    have hownb := hI.ownb
    rw [List.take_length] at hown hownb
    obtain ⟨xa, ca, rfl, hsa⟩ := own_slice hown
    obtain ⟨xb, cb, rfl, hsb⟩ := own_slice hownb
    obtain ⟨hg0, hg1, hz0', hz1'⟩ := got_cells hI.got
    have hord := hI.ord
    have hbelow := hI.below
    have hla2 := hexs_len A
    have hlb2 := hexs_len B
    have hlo := hI.ord.1
    have hb1 : (hexs A).length ≤ 12 := by omega
    have hb2 : (hexs B).length ≤ 12 := by omega
    have hb3 : o.length ≤ 12 := by omega
    have HE : Hid (A.take A.length = A ∧ B.take B.length = B) := ⟨List.take_length, List.take_length⟩
    rw [HE.out.1, HE.out.2]
    clear hI hown hownb hlt hla hlb hla2 hlb2 hlo ha hb hcs hct
    unfold pairFrame
    refine wpN_seq_hide fun K Q' hK hQ => ?_
    go_wp2
    refine hQ.out _ _ _ ?_
    clear hK hQ K Q'
    change wpN _ _ _ _ _
    refine wpN_seq_hide fun K Q' hK hQ => ?_
    go_wp2_with (go_at_call 30; refine (text_any xa A.length ca A rfl (by omega) hAv _ hsa).mono ?_; rintro e w' ⟨rfl, m1, rfl⟩)
    refine hK.out _ _ ?_
    clear hK hQ K Q'
    refine wpN_seq_hide fun K Q' hK hQ => ?_
    go_wp2_with (go_at_call 30; refine (text_any xb B.length cb B rfl (by omega) hBv _ (hsb.drewN _)).mono ?_; rintro e w' ⟨rfl, m2, rfl⟩)
    refine hK.out _ _ ?_
    clear hK hQ K Q'
    refine wpN_hide fun Q' hQ => ?_
    go_wp2
    refine hQ.out _ _ _ ?_
    clear hQ Q'
    rw [str5]
    exact bodyPost_ret (v := .tuple #[.int .i64 ((A.length : Int) + B.length), .int .i64 (A.sum + B.sum), .string ⟨(hexs A ++ [59] ++ hexs B ++ [59] ++ o).toArray⟩, .int .i64 0]) (by simp [results, Try.results36]) rfl ⟨o, hord, rfl, ⟨hbelow.os, hbelow.tape, hbelow.output, hbelow.size, hbelow.block⟩⟩
end Go.Proofs.Qxb6500585a
