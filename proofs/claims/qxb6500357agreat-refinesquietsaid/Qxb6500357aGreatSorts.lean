import Derived.Test.Qxb6500357aGreatText
import Derived.Test.Qxb6500357aGreatSortPlain
namespace Go.Proofs.Qxb6500357aGreat
open Go.RowKit Go.Tag
set_option linter.unusedVariables false
set_option linter.unusedSimpArgs false
attribute [local simp] str_size
attribute [local go_sem] str_size

/-- What the sort leaves. -/
def SortedI (w : World) (base : Nat) (v : Value) (l : List Int) (e : Ending) (w' : World) : Prop :=
  e = .returned (.tuple #[]) ∧ ∃ l' : List Int, l'.Perm l ∧ l'.Pairwise (· ≤ ·) ∧ w'.ownsRow base 3 1 v l'.length (l'.map (Value.int .i64)) ∧ Fr (fun k => v.ownBlock = some k) w w'

/-- The outer loop's state. -/
def SortOut (w : World) (base : Nat) (v : Value) (n : Nat) (l : List Int) (m : Nat) (A : List Int) (wr : World) : Prop :=
  A.Perm l ∧ (A.take m).Pairwise (· ≤ ·) ∧ wr.ownsRow base 3 1 v n (A.map (Value.int .i64)) ∧ Fr (fun k => v.ownBlock = some k) w wr

/-- The inner loop's state: E: what is left of A without its place m; x: what lies at the free place. -/
def SortIn (w : World) (base : Nat) (v : Value) (n : Nat) (m k : Nat) (E : List Int) (x y : Int) (wr : World) : Prop :=
  (∀ j (h : j < E.length), k ≤ j → j < m → y < E[j]) ∧ wr.ownsRow base 3 1 v n ((layAt E k x).map (Value.int .i64)) ∧ Fr (fun k => v.ownBlock = some k) w wr

set_option maxHeartbeats 1000000 in
theorem sortInts_any (v : Value) (l : List Int) (base : Nat) (w : World) (h : w.ownsRow base 3 1 v l.length (l.map (Value.int .i64))) (hlen : l.length ≤ 1000) :
    Calls Tryz.prog 80 #[v] w (SortedI w base v l) := by
  by_cases h0 : l.length = 0
  · have hl : l = [] := List.eq_nil_of_length_eq_zero h0
    subst hl
    obtain ⟨ao, cap, rfl, _⟩ := own_sl h
    simp only [List.map_nil, List.length_nil] at h ⊢
    go_enter Tryz.func80, Tryz.ntmps80
    go_wp2
    refine wp_loop_rounds 1 ?_
    rw [rounds_succ]
    go_wp2
    go_end0
    exact ⟨rfl, [], List.Perm.refl _, List.Pairwise.nil, h, Fr.refl _ _⟩
  · obtain ⟨g, cap, rfl, -⟩ := own_at h (by omega)
    have HP0 : Hid (SortOut w base (.slice (some ⟨g, 0, none⟩) l.length cap) l.length l 1 l w) :=
      ⟨List.Perm.refl _, by
        cases l with
        | nil => simp at h0
        | cons a t => simp, h, Fr.refl _ _⟩
    obtain ⟨n, hn⟩ : ∃ n, l.length = n := ⟨_, rfl⟩
    rw [hn] at HP0 h0 hlen ⊢
    have HL : Hid (l.length = n) := hn
    clear hn
    have hn0 : 0 < n := by omega
    have hn1 : (1 : Int) ≤ n := by omega
    clear h h0
    go_enter Tryz.func80, Tryz.ntmps80
    go_wp2
    go_loopw [2] (fun i wr => ∃ (m : Nat) (A : List Int), 1 ≤ m ∧ m ≤ n ∧ i = .int .i64 m ∧ SortOut w base (.slice (some ⟨g, 0, none⟩) n cap) n l m A wr) (fun i _ => n - (intOf i).toNat)
    case atStart => exact ⟨1, l, Nat.le_refl _, by omega, rfl, HP0.out⟩
    case round =>
      obtain ⟨m, A, hm1, hmn, rfl, hP⟩ := hrel
      by_cases hlt : m < n
      · have hA : A.length = n := by rw [hP.1.length_eq]; exact HL.out
        obtain ⟨hg, hgw, hcell, hfz, hset⟩ := own_cells hP.2.2.1
        have hcm := hcell m (.int .i64 A[m]) (by simp [hA, hlt])
        have HI0 : Hid (SortIn w base (.slice (some ⟨g, 0, none⟩) n cap) n m m (A.eraseIdx m) A[m] A[m] wr) :=
          ⟨fun j h h1 h2 => by omega, by rw [← layAt_erase A m (by omega)]; exact hP.2.2.1, hP.2.2.2⟩
        have HE : Hid ((A.eraseIdx m).length + 1 = n ∧ (A.eraseIdx m).take m = A.take m ∧ (A[m] :: A.eraseIdx m).Perm l) := by
          refine ⟨by rw [List.length_eraseIdx_of_lt (by omega)]; omega, ?_, ?_⟩
          · rw [List.eraseIdx_eq_take_drop_succ, List.take_append_of_le_length (by simp; omega), List.take_of_length_le (by simp; omega)]
          · refine List.Perm.trans ?_ hP.1
            have := layAt_perm (A.eraseIdx m) m A[m]
            rw [← layAt_erase A m (by omega)] at this
            exact this.symm
        have HS : Hid ((A.take m).Pairwise (· ≤ ·)) := hP.2.1
        generalize A[m] = y at *
        generalize hEE : A.eraseIdx m = E at *
        have HSE : Hid ((E.take m).Pairwise (· ≤ ·)) := by show List.Pairwise _ _; rw [HE.out.2.1]; exact HS.out
        clear hEE hcell hfz hset hP HS
        go_wp2
        go_loopw [4] (fun kk wr => ∃ (k : Nat) (x : Int), k ≤ m ∧ kk = .int .i64 k ∧ SortIn w base (.slice (some ⟨g, 0, none⟩) n cap) n m k E x y wr) (fun kk _ => (intOf kk).toNat)
        case atStart => exact ⟨m, y, Nat.le_refl _, rfl, HI0.out⟩
        case round =>
          obtain ⟨k, x, hkm, rfl, hI⟩ := hrel
          have hEl := HE.out.1
          obtain ⟨hg1, hgw1, hcell, hfz, hset⟩ := own_cells hI.2.1
          have hck : wr.cell? ⟨g, k, none⟩ = some (.int .i64 x) := hcell k _ (by rw [layAt_map, layAt_get _ _ _ (by simp; omega)])
          have hfk := hfz k
          have HF : Hid (∀ k, (some g : Option Nat) = some k → ∀ S : Nat → Prop, S g → S k) := fun k e S hS => by cases e; exact hS
          have fin : Hid (k = 0 ∨ (∃ (h : 0 < k) (h' : k - 1 < E.length), ¬ y < E[k - 1]) → SortOut w base (.slice (some ⟨g, 0, none⟩) n cap) n l (m + 1) (layAt E k y) (wr.setCell ⟨g, k, none⟩ (.int .i64 y))) := by
            intro hend
            refine ⟨(layAt_perm E k y).trans HE.out.2.2, ?_, ?_, ?_⟩
            · refine layAt_sorted E m k y hkm (by omega) HSE.out ?_ (fun j h h1 h2 => by have := hI.1 j h h1 h2; omega)
              intro j h hjk
              rcases hend with rfl | ⟨h0, h', hle⟩
              · omega
              · have hs := HSE.out
                rw [List.pairwise_iff_getElem] at hs
                by_cases hj1 : j = k - 1
                · subst hj1; omega
                · have := hs j (k - 1) (by simp; omega) (by simp; omega) (by omega)
                  simp only [List.getElem_take] at this
                  omega
            · have := hset k (.int .i64 y) (by omega)
              rw [layAt_map, layAt_set _ _ _ _ (by simp; omega), ← layAt_map] at this
              exact this
            · exact hI.2.2.setCell (p := ⟨g, k, none⟩) (.inr rfl) _
          by_cases hk0 : k = 0
          · have H0 : Hid (k = 0) := hk0
            have hkk : ¬ (0 : Int) < (k : Int) := by omega
            clear hk0 hcell hfz hset
            have hkd : decide ((0 : Int) < (k : Int)) = false := by simp; omega
            go_wp2
            go_roundw
            case rel => exact ⟨m + 1, layAt E k y, by omega, by omega, by go_num, fin.out (.inl H0.out)⟩
            case measure => simp [intOf]; omega
          · have hkpos : (0 : Int) < (k : Int) := by omega
            have hkd : decide ((0 : Int) < (k : Int)) = true := by simp; omega
            have hk1 : k - 1 < E.length := by omega
            have hcz : wr.cell? ⟨g, k - 1, none⟩ = some (.int .i64 E[k - 1]) := hcell (k - 1) _ (by rw [layAt_map, layAt_lt _ _ _ (by simp; omega) (by omega)]; simp [hk1])
            by_cases hyz : y < E[k - 1]
            · have HI1 : Hid (SortIn w base (.slice (some ⟨g, 0, none⟩) n cap) n m (k - 1) E E[k - 1] y (wr.setCell ⟨g, k, none⟩ (.int .i64 E[k - 1]))) := by
                refine ⟨?_, ?_, hI.2.2.setCell (p := ⟨g, k, none⟩) (.inr rfl) _⟩
                · intro j h h1 h2
                  by_cases hj : j = k - 1
                  · subst hj; exact hyz
                  · exact hI.1 j h (by omega) h2
                · have := hset k (.int .i64 E[k - 1]) (by omega)
                  rw [layAt_map, layAt_set _ _ _ _ (by simp; omega), ← layAt_map, layAt_down E k (by omega) hk1] at this
                  exact this
              generalize E[k - 1] = z at hcz hyz HI1
              clear hcell hfz hset fin
              go_wp2
              go_roundw
              case rel => exact ⟨k - 1, z, by omega, by go_num, HI1.out⟩
              case measure => simp [intOf]; omega
            · have HZ : Hid (∃ (h : 0 < k) (h' : k - 1 < E.length), ¬ y < E[k - 1]) := ⟨by omega, hk1, hyz⟩
              generalize E[k - 1] = z at hcz hyz
              clear hcell hfz hset
              go_wp2
              go_roundw
              case rel => exact ⟨m + 1, layAt E k y, by omega, by omega, by go_num, fin.out (.inr HZ.out)⟩
              case measure => simp [intOf]; omega
      · have hA : A.length = n := by rw [hP.1.length_eq]; exact HL.out
        have HP : Hid (SortOut w base (.slice (some ⟨g, 0, none⟩) n cap) n l m A wr) := hP
        have hAl : Hid (A.length = n) := hA
        clear hA hP
        go_wp2
        go_end0
        refine ⟨rfl, A, HP.out.1, ?_, by rw [hAl.out]; exact HP.out.2.2.1, HP.out.2.2.2⟩
        have := HP.out.2.1
        rwa [List.take_of_length_le (by have := hAl.out; omega)] at this
end Go.Proofs.Qxb6500357aGreat
