/- The model's store: how it lies in memory. -/
import Derived.Test.Qxb6500357aGreatAdd
import Derived.Test.Qxb6500357aGreatInsPlain
import Derived.BigRegion
import Derived.BigQuiet
namespace Go.Tag
open Go.RowKit Go.Proofs.Qxb6500357aGreat
set_option linter.unusedVariables false
set_option linter.unusedSimpArgs false

/-- Twelve cells in a row. -/
def Row12 (w : World) (b : Nat) (f : Nat → Value) : Prop := ∃ (arr : Array Value), w.heap[b]? = some (.cells arr 122) ∧ arr.size = 12 ∧ ∀ i, i < 12 → arr[i]? = some (f i)
def updN (f : Nat → Value) (i : Nat) (v : Value) : Nat → Value := fun j => if j = i then v else f j
theorem Row12.lt {w : World} {b : Nat} {f : Nat → Value} (h : Row12 w b f) : b < w.heap.size := let ⟨_, h1, _⟩ := h; lt_of_heap h1
theorem Row12.keep {w w' : World} {b : Nat} {f : Nat → Value} (h : Row12 w b f) (hb : w'.heap[b]? = w.heap[b]?) : Row12 w' b f := let ⟨a, h1, h2⟩ := h; ⟨a, hb.trans h1, h2⟩
theorem Row12.fr {w w' : World} {b : Nat} {f : Nat → Value} (h : Row12 w b f) {S : Nat → Prop} (hf : Fr S w w') (hs : ¬ S b) : Row12 w' b f := h.keep (hf.block b h.lt hs)
theorem Row12.cell {w : World} {b : Nat} {f : Nat → Value} (h : Row12 w b f) {i : Nat} (hi : i < 12) : w.cell? ⟨b, i, none⟩ = some (f i) := by
  obtain ⟨a, h1, h2, h3⟩ := h
  rw [cell_of_heap h1]; exact h3 i hi
theorem Row12.frozen {w : World} {b : Nat} {f : Nat → Value} (h : Row12 w b f) (i : Nat) : w.frozen? ⟨b, i, none⟩ = false := by
  obtain ⟨a, h1, h2, h3⟩ := h
  exact frozen_of_heap h1 i
theorem Row12.set {w : World} {b : Nat} {f : Nat → Value} (h : Row12 w b f) {i : Nat} (hi : i < 12) (v : Value) : Row12 (w.setCell ⟨b, i, none⟩ v) b (updN f i v) := by
  obtain ⟨a, h1, h2, h3⟩ := h
  refine ⟨_, heap_setCell_same h1 i v, by simpa using h2, fun j hj => ?_⟩
  unfold updN
  by_cases e : j = i
  · subst e; rw [if_pos rfl, Array.getElem?_setIfInBounds_self_of_lt (by omega)]
  · rw [if_neg e, Array.getElem?_setIfInBounds_ne (Ne.symm e)]; exact h3 j hj
theorem Row12.congr {w : World} {b : Nat} {f g : Nat → Value} (h : Row12 w b f) (hg : ∀ i, i < 12 → g i = f i) : Row12 w b g := by
  obtain ⟨a, h1, h2, h3⟩ := h
  exact ⟨a, h1, h2, fun i hi => by rw [hg i hi]; exact h3 i hi⟩

def docC (s : St) (i : Int) : List Value := [.int .i64 i, .int .i64 (s.groupOf i), .string (str (s.textOf i))]
def docF (s : St) (l : List Int) : List Value := l.flatMap (docC s)
theorem docF_append (s : St) (a b : List Int) : docF s (a ++ b) = docF s a ++ docF s b := by simp [docF]
theorem docF_len (s : St) : ∀ l : List Int, (docF s l).length = l.length * 3
  | [] => rfl
  | a :: l => by
    have := docF_len s l
    have e : docF s (a :: l) = docC s a ++ docF s l := rfl
    rw [e, List.length_append, this]; simp [docC]; omega
theorem docF_get (s : St) : ∀ (l : List Int) (j : Nat) (h : j < l.length), (docF s l)[j * 3]? = some (.int .i64 l[j]) ∧ (docF s l)[j * 3 + 1]? = some (.int .i64 (s.groupOf l[j])) ∧ (docF s l)[j * 3 + 2]? = some (.string (str (s.textOf l[j])))
  | a :: l, 0, h => ⟨rfl, rfl, rfl⟩
  | a :: l, j + 1, h => by
    have := docF_get s l j (by simpa using h)
    have e : docF s (a :: l) = docC s a ++ docF s l := rfl
    have h0 : (docC s a).length = 3 := rfl
    rw [e]
    refine ⟨?_, ?_, ?_⟩
    · rw [List.getElem?_append_right (by omega), h0, show (j + 1) * 3 - 3 = j * 3 by omega]; simpa using this.1
    · rw [List.getElem?_append_right (by omega), h0, show (j + 1) * 3 + 1 - 3 = j * 3 + 1 by omega]; simpa using this.2.1
    · rw [List.getElem?_append_right (by omega), h0, show (j + 1) * 3 + 2 - 3 = j * 3 + 2 by omega]; simpa using this.2.2
theorem docF_congr {s t : St} {l : List Int} (h : ∀ i ∈ l, s.docs i = t.docs i) : docF s l = docF t l := by
  unfold docF
  induction l with
  | nil => rfl
  | cons a l ih =>
    rw [List.flatMap_cons, List.flatMap_cons, ih (fun i hi => h i (List.mem_cons_of_mem _ hi))]
    congr 1
    unfold docC St.groupOf St.textOf
    rw [h a (List.mem_cons_self ..)]
theorem one_doc (s : St) (l : List Int) : ∀ u ∈ docF s l, u.oneCell' = true := by
  intro u hu
  unfold docF at hu
  obtain ⟨i, -, hi⟩ := List.mem_flatMap.1 hu
  simp only [docC, List.mem_cons, List.not_mem_nil, or_false] at hi
  rcases hi with rfl | rfl | rfl <;> rfl

def fM (D : Value) (s : St) (a : Int) (i : Nat) : Value := if i = 0 then D else if i = 11 then .int .i64 a else .int .i64 (s.revs ((i : Int) - 1))
/-- The model's store at b holds s: the slice D of the documents, the counters, the asks. -/
structure MSat (w : World) (F : Nat → Prop) (b : Nat) (s : St) (D : Value) (a : Int) : Prop where
  row : Row12 w b (fM D s a)
  fb : F b
  own : w.ownsRow 0 88 3 D s.ids.length (docF s s.ids)
  fd : ∀ k, D.ownBlock = some k → F k ∧ k ≠ b
  lt : ∀ k, F k → k < w.heap.size
def MS (w : World) (F : Nat → Prop) (b : Nat) (s : St) : Prop := ∃ D a, MSat w F b s D a
section
variable {w w' : World} {F : Nat → Prop} {b : Nat} {s : St} {D : Value} {a : Int}
theorem own_fr2 {e : TypeId} {size n : Nat} {v : Value} {xs : List Value} {base : Nat} (h : w.ownsRow base e size v n xs) {S : Nat → Prop} (f : Fr S w w') (hs : ∀ k, v.ownBlock = some k → ¬ S k) : w'.ownsRow base e size v n xs :=
  own_keep h (fun k hk => f.block k (h.lt k hk).2 (hs k hk))
theorem MSat.fr (h : MSat w F b s D a) {S : Nat → Prop} (f : Fr S w w') (hs : ∀ k, F k → ¬ S k) : MSat w' F b s D a :=
  ⟨h.row.fr f (hs b h.fb), h.fb, own_fr2 h.own f (fun k hk => hs k (h.fd k hk).1), h.fd, fun k hk => Nat.lt_of_lt_of_le (h.lt k hk) f.size⟩
theorem MS.fr (h : MS w F b s) {S : Nat → Prop} (f : Fr S w w') (hs : ∀ k, F k → ¬ S k) : MS w' F b s := by
  obtain ⟨D, a, h⟩ := h; exact ⟨D, a, h.fr f hs⟩
theorem MS.frNo (h : MS w F b s) (f : Fr No w w') : MS w' F b s := h.fr f (fun _ _ e => e)
theorem MS.lt (h : MS w F b s) : ∀ k, F k → k < w.heap.size := by obtain ⟨D, a, h⟩ := h; exact h.lt
theorem MS.fb (h : MS w F b s) : F b := by obtain ⟨D, a, h⟩ := h; exact h.fb
theorem MSat.cells (h : MSat w F b s D a) : w.cell? ⟨b, 0, none⟩ = some D ∧ w.cell? ⟨b, 11, none⟩ = some (.int .i64 a) ∧ (∀ i, w.frozen? ⟨b, i, none⟩ = false) ∧ b < w.heap.size := by
  refine ⟨?_, ?_, h.row.frozen, h.lt b h.fb⟩
  · rw [h.row.cell (by omega)]; rfl
  · rw [h.row.cell (by omega)]; rfl
theorem MSat.docs (h : MSat w F b s D a) : ∃ a0 cap, D = .slice a0 s.ids.length cap ∧ s.ids.length ≤ cap ∧ ∀ j (hj : j < s.ids.length), ∃ g, a0 = some ⟨g, 0, none⟩ ∧ g ≠ b ∧ F g ∧ w.cell? ⟨g, j * 3, none⟩ = some (.int .i64 s.ids[j]) ∧ w.cell? ⟨g, j * 3 + 1, none⟩ = some (.int .i64 (s.groupOf s.ids[j])) ∧ w.cell? ⟨g, j * 3 + 2, none⟩ = some (.string (str (s.textOf s.ids[j]))) := by
  rcases h.own.2 with ⟨hD, hn⟩ | ⟨g, cap, cur, hD, hb, hg, hn, hm, hsz, htk⟩
  · exact ⟨none, 0, by rw [hD, hn], by omega, fun j hj => by omega⟩
  · refine ⟨some ⟨g, 0, none⟩, cap, hD, hn, fun j hj => ⟨g, rfl, ?_⟩⟩
    have hF := h.fd g (by rw [hD]; rfl)
    have hget := docF_get s s.ids j hj
    have hcell : ∀ k u, (docF s s.ids)[k]? = some u → w.cell? ⟨g, k, none⟩ = some u := fun k u hu => by
      rw [cell_of_heap hg, ← Array.getElem?_toList]
      rw [← htk, List.getElem?_take] at hu
      split at hu
      · exact hu
      · cases hu
    exact ⟨hF.2, hF.1, hcell _ _ hget.1, hcell _ _ hget.2.1, hcell _ _ hget.2.2⟩
theorem MSat.ask (h : MSat w F b s D a) (v : Int) : MSat (w.setCell ⟨b, 11, none⟩ (.int .i64 v)) F b s D v := by
  have f : Fr (fun k => k = b) w (w.setCell ⟨b, 11, none⟩ (.int .i64 v)) := (Fr.refl (fun k => k = b) w).setCell (p := ⟨b, 11, none⟩) (.inr rfl) _
  refine ⟨(h.row.set (by omega) _).congr (fun i hi => ?_), h.fb, own_fr2 h.own f (fun k hk e => (h.fd k hk).2 e), h.fd, fun k hk => Nat.lt_of_lt_of_le (h.lt k hk) f.size⟩
  unfold updN fM
  by_cases e : i = 11
  · subst e; rfl
  · rw [if_neg e, if_neg e, if_neg e]
theorem ask_fr (h : MSat w F b s D a) (v : Value) : Fr F w (w.setCell ⟨b, 11, none⟩ v) := (Fr.refl F w).setCell (p := ⟨b, 11, none⟩) (.inr h.fb) _
end
end Go.Tag
namespace Go.Proofs.Qxb6500357aGreat
open Go.RowKit Go.Tag
set_option linter.unusedVariables false
set_option linter.unusedSimpArgs false
set_option maxRecDepth 100000
attribute [local simp] str_size
attribute [local go_sem] str_size

/-- What asking leaves. -/
def MAsk (w : World) (F : Nat → Prop) (b : Nat) (s : St) (v : Value) (e : Ending) (w' : World) : Prop := e = .returned v ∧ MS w' F b s ∧ Fr F w w'
/-- What a turn leaves. -/
def MTurn (w : World) (F : Nat → Prop) (b : Nat) (s' : St) (v : Value) (e : Ending) (w' : World) : Prop := e = .returned v ∧ MS w' (fun k => (F k ∨ w.heap.size ≤ k) ∧ k < w'.heap.size) b s' ∧ Fr F w w'
/-- Where an id stands, or would. -/
structure AtPos (s : St) (id : Int) (j : Nat) : Prop where
  le : j ≤ s.ids.length
  lo : ∀ i ∈ s.ids.take j, i < id
  hi : ∀ i ∈ s.ids.drop j, id ≤ i
def AtPost (w : World) (s : St) (id : Int) (e : Ending) (w' : World) : Prop := ∃ j, e = .returned (.tuple #[.int .i64 (j : Nat), .bool (decide (∃ h : j < s.ids.length, s.ids[j] = id))]) ∧ AtPos s id j ∧ Fr No w w'
section
variable (b : Nat) (F : Nat → Prop) (s : St) (w : World)
set_option maxHeartbeats 1000000 in
theorem mAt_any (id : Int) (h : MS w F b s) (hl : s.ids.length ≤ 9) : Calls Tryz.prog 102 #[.pointer (some ⟨b, 0, none⟩), .int .i64 id] w (AtPost w s id) := by
  obtain ⟨D, a, h⟩ := h
  obtain ⟨c0, -, -, hbl⟩ := h.cells
  obtain ⟨a0, cap, rfl, -, hd⟩ := h.docs
  clear h
  obtain ⟨n, hn⟩ : ∃ n, s.ids.length = n := ⟨_, rfl⟩
  have HN : Hid (s.ids.length = n) := hn
  have HC : Hid (∀ j (hj : j < s.ids.length), ∃ g, a0 = some ⟨g, 0, none⟩ ∧ w.cell? ⟨g, j * 3, none⟩ = some (.int .i64 s.ids[j])) := fun j hj => by
    obtain ⟨g, e, -, -, c, -⟩ := hd j hj; exact ⟨g, e, c⟩
  have HS : Hid (s.ids.Pairwise (· < ·)) := ids_sorted s
  rw [hn] at c0 hl
  clear hd hn
  go_enter Tryz.func102, Tryz.ntmps102
  go_wp2
  go_loop [6] (fun i => ∃ j : Nat, j ≤ n ∧ i = .int .i64 j ∧ Hid (∀ x ∈ s.ids.take j, x < id)) (fun i => n - (intOf i).toNat)
  case atStart => exact ⟨0, Nat.zero_le _, rfl, fun x hx => by simp at hx⟩
  case round =>
    obtain ⟨j, hj, rfl, hok⟩ := hrel
    by_cases hjn : j < n
    · have hlt : j < s.ids.length := by rw [HN.out]; exact hjn
      obtain ⟨g, rfl, hcj⟩ := HC.out j hlt
      have hjd : decide ((j : Int) < (n : Int)) = true := by simp; omega
      have hjd' : (j : Int) < (n : Int) := by omega
      have hjn' : decide (j < n) = true := by simp; omega
      by_cases hLt : s.ids[j] < id
      · have HK : Hid (∀ x ∈ s.ids.take (j + 1), x < id) := fun x hx => by
          rw [take_snoc s.ids j hlt, List.mem_append, List.mem_singleton] at hx
          rcases hx with hx | rfl
          · exact hok.out x hx
          · exact hLt
        have hbl : decide (s.ids[j] < id) = true := by simpa using hLt
        clear hLt
        generalize s.ids[j] = lj at *
        go_wp2
        go_round
        case rel => exact ⟨j + 1, by omega, by go_num, HK⟩
        case measure => simp [intOf]; omega
      · have HP : Hid (AtPos s id j) := ⟨by rw [HN.out]; exact hj, hok.out, fun x hx => by
          obtain ⟨k, hk, rfl⟩ := List.mem_iff_getElem.1 hx
          rw [List.getElem_drop]
          rw [List.length_drop] at hk
          rcases Nat.eq_zero_or_pos k with h0 | h0
          · subst h0; simpa using hLt
          · have := List.pairwise_iff_getElem.1 HS.out j (j + k) hlt (by omega) (by omega)
            omega⟩
        have HB : Hid (∀ W, Fr No w W → AtPost w s id (.returned (.tuple #[.int .i64 (j : Nat), .bool (s.ids[j] == id)])) W) := fun W f => by
          refine ⟨j, ?_, HP.out, f⟩
          have : (decide (∃ h : j < s.ids.length, s.ids[j] = id)) = (s.ids[j] == id) := by
            rw [Bool.eq_iff_iff, decide_eq_true_eq, beq_iff_eq]
            exact ⟨fun ⟨_, h⟩ => h, fun h => ⟨hlt, h⟩⟩
          rw [this]
        have hbl : decide (s.ids[j] < id) = false := by simpa using hLt
        clear hLt HP
        generalize s.ids[j] = lj at *
        go_wp2
        go_quiet (fail)
        go_wp2
        refine bodyPost_ret (v := .tuple #[.int .i64 (j : Nat), .bool (lj == id)]) (by simp [results, Tryz.results102, go_sem]) rfl (HB.out _ ((Fr.refl _ _).drewN _))
    · have hjd : decide ((j : Int) < (n : Int)) = false := by simp; omega
      have hjd' : ¬ (j : Int) < (n : Int) := by omega
      have hjn' : decide (j < n) = false := by simp; omega
      have HP : Hid (AtPos s id j) := ⟨by rw [HN.out]; exact hj, hok.out, fun x hx => by
          rw [List.drop_of_length_le (by rw [HN.out]; omega)] at hx; simp at hx⟩
      have HB : Hid ((decide (∃ h : j < s.ids.length, s.ids[j] = id)) = false) := by
        rw [Hid, decide_eq_false_iff_not]
        rintro ⟨h, _⟩
        rw [HN.out] at h; omega
      go_wp2
      go_quiet (fail)
      go_wp2
      refine bodyPost_ret (v := .tuple #[.int .i64 (j : Nat), .bool false]) (by simp [results, Tryz.results102, go_sem]) rfl ⟨j, by rw [HB.out], HP.out, (Fr.refl _ _).drewN _⟩

theorem mLen_any (h : MS w F b s) : Calls Tryz.prog 97 #[.pointer (some ⟨b, 0, none⟩)] w (MAsk w F b s (.int .i64 s.ids.length)) := by
  obtain ⟨D, a, h⟩ := h
  obtain ⟨c0, c11, fz, hbl⟩ := h.cells
  have HZ : Hid (∀ v, MS (w.setCell ⟨b, 11, none⟩ (.int .i64 v)) F b s ∧ Fr F w (w.setCell ⟨b, 11, none⟩ (.int .i64 v))) := fun v => ⟨⟨D, v, h.ask v⟩, ask_fr h _⟩
  obtain ⟨a0, cap, rfl, -, -⟩ := h.docs
  clear h
  go_enter Tryz.func97, Tryz.ntmps97
  go_wp2
  go_ret
  exact ⟨rfl, (HZ.out _).1, (HZ.out _).2⟩
end
end Go.Proofs.Qxb6500357aGreat
