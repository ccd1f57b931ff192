import Derived.Test.Qxb6500357aGreatSortS
import Derived.Test.Qxb6500357aGreatMapW
namespace Go.Proofs.Qxb6500357aGreat
open Go.RowKit Go.Tag
set_option linter.unusedVariables false
set_option linter.unusedSimpArgs false
attribute [local simp] str_size
attribute [local go_sem] str_size
set_option maxRecDepth 100000

theorem info9 : (Tryz.prog.info? 9).map (fun i => (i.zero, i.size, i.bytes)) = some (some (.string ⟨#[]⟩), 1, 16) := by kernel_rfl
theorem info3 : (Tryz.prog.info? 3).map (fun i => (i.zero, i.size, i.bytes)) = some (some (.int .i64 0), 1, 8) := by kernel_rfl
theorem zero4 (w : World) : (zeroValue 4).run Tryz.prog w = .ok (.bool false) w := by kernel_rfl
theorem zero3 (w : World) : (zeroValue 3).run Tryz.prog w = .ok (.int .i64 0) w := by kernel_rfl
theorem keyStr : KeyOK Tryz.prog 9 kStr := keyOK_str Tryz.underlying9
theorem keyInt : KeyOK Tryz.prog 3 kInt := keyOK_int Tryz.underlying3

/-- A set as a map to true. -/
def setFn {κ : Type} [DecidableEq κ] (l : List κ) (k : κ) : Option Value := if k ∈ l then some (.bool true) else none

theorem vStr_one (l : List (List UInt8)) : ∀ u ∈ l.map vStr, u.oneCell' = true := by
  intro u hu
  obtain ⟨_, _, rfl⟩ := List.mem_map.1 hu
  rfl

/-- What split leaves. -/
def SplitPost (w : World) (l : List UInt8) (e : Ending) (w' : World) : Prop :=
  ∃ v, e = .returned v ∧ w'.ownsRow w.heap.size 9 1 v (wordsOf l).length ((wordsOf l).map vStr) ∧ Fr No w w'

/-- The loop's state. -/
structure SplitI (w : World) (l : List UInt8) (j lo : Nat) (v : Value) (acc : List (List UInt8)) (wr : World) : Prop where
  seen : MapFn wr w.heap.size kStr (setFn acc)
  own : wr.ownsRow (w.heap.size + 1) 9 1 v acc.length (acc.map vStr)
  fr : Fr No w wr
  big : w.heap.size + 1 ≤ wr.heap.size
  len : acc.length ≤ j
  at_ : (j ≤ l.length ∧ lo ≤ j ∧ wordsOf l = splitGo (l.drop j) ((l.take j).drop lo) acc) ∨ (j = l.length + 1 ∧ acc = wordsOf l)

theorem take_drop_snoc (l : List UInt8) (j lo : Nat) (h : j < l.length) (hlo : lo ≤ j) : (l.take (j + 1)).drop lo = (l.take j).drop lo ++ [l[j]] := by
  rw [take_snoc l j h, List.drop_append_of_le_length (by simp; omega)]

/-- A letter: the run goes on. -/
theorem SplitI.letter {w : World} {l : List UInt8} {j lo : Nat} {v : Value} {acc : List (List UInt8)} {wr : World} (h : SplitI w l j lo v acc wr) (hj : j < l.length) (hc : l[j] ≠ 32) : SplitI w l (j + 1) lo v acc wr := by
  refine ⟨h.seen, h.own, h.fr, h.big, by have := h.len; omega, .inl ⟨by omega, ?_⟩⟩
  obtain ⟨-, hlo, hw⟩ := h.at_.resolve_right (fun e => by omega)
  refine ⟨by omega, ?_⟩
  rw [hw, List.drop_eq_getElem_cons hj, splitGo, if_neg hc, take_drop_snoc l j lo hj hlo]

/-- The end of a run. -/
theorem SplitI.word {w : World} {l : List UInt8} {j lo : Nat} {v : Value} {acc : List (List UInt8)} {wr : World} (h : SplitI w l j lo v acc wr) (hj : j ≤ l.length) (hc : ∀ h : j < l.length, l[j] = 32)
    {v' : Value} {acc' : List (List UInt8)} {wr' : World} (ha : acc' = addW acc ((l.take j).drop lo)) (hl : acc'.length ≤ acc.length + 1) (h1 : MapFn wr' w.heap.size kStr (setFn acc')) (h2 : wr'.ownsRow (w.heap.size + 1) 9 1 v' acc'.length (acc'.map vStr)) (h3 : Fr No w wr') (h4 : w.heap.size + 1 ≤ wr'.heap.size) :
    SplitI w l (j + 1) (j + 1) v' acc' wr' := by
  refine ⟨h1, h2, h3, h4, by have := h.len; omega, ?_⟩
  obtain ⟨-, hlo, hw⟩ := h.at_.resolve_right (fun e => by omega)
  by_cases hlt : j < l.length
  · left
    refine ⟨by omega, Nat.le_refl _, ?_⟩
    rw [hw, List.drop_eq_getElem_cons hlt, splitGo, if_pos (hc hlt), List.drop_take_self, ha]
  · right
    have e : j = l.length := by omega
    refine ⟨by omega, ?_⟩
    have e2 : l.drop j = [] := List.drop_of_length_le (by omega)
    rw [hw, ha, e2, splitGo]

theorem fr_own {S : Nat → Prop} {w w' : World} {n : Nat} (h : Fr S w w') : Fr S w w' := h

set_option maxHeartbeats 1000000 in
theorem split_any (l : List UInt8) (w : World) (hlen : l.length ≤ 1000) : Calls Tryz.prog 67 #[.string (str l)] w (SplitPost w l) := by
  have hmm := @run_makeMap Tryz.prog
  have hlen' : (l.length : Int) ≤ 1000 := by omega
  have hst : Hid (SplitI w l 0 0 (.slice none 0 0) [] (w.alloc (.map #[] 0))) := by
    refine ⟨⟨#[], 0, heap_alloc_new _ _, ?_⟩, own_nil _ _ _ _, (Fr.refl _ _).alloc _, by simp, by simp, .inl ⟨by simp, by simp, rfl⟩⟩
    have : (setFn [] : List UInt8 → Option Value) = fun _ => none := by funext k; simp [setFn]
    rw [this]; exact Ents.empty _
  go_enter Tryz.func67, Tryz.ntmps67
  go_wp2
  go_loopw [3, 5, 6] (fun v lo i wr => ∃ (j lo' : Nat) (acc : List (List UInt8)), lo = .int .i64 lo' ∧ i = .int .i64 j ∧ j ≤ l.length + 1 ∧ SplitI w l j lo' v acc wr) (fun _ _ i _ => l.length + 1 - (intOf i).toNat)
  case atStart => exact ⟨0, 0, [], rfl, rfl, by omega, hst.out⟩
  case round =>
    obtain ⟨j, lo, acc, rfl, rfl, hj, hI⟩ := hrel
    by_cases hle : j ≤ l.length
    · obtain ⟨-, hlo, hw⟩ := hI.at_.resolve_right (fun h => by omega)
      have hlo' : (lo : Int) ≤ (j : Int) := by omega
      have hsl : ∀ wx, (Instr.slice 9 (.string (str l)) (some (.int .i64 lo)) (some (.int .i64 j)) none).run Tryz.prog wx = .ok (.string (str ((l.take j).drop lo))) wx := by
        intro wx
        rw [run_slice_string (P := Tryz.prog) wx 9 (str l) .i64 .i64 lo j Tryz.underlying9 (by omega) (by omega) (by rw [str_size]; omega)]
        rw [Int.toNat_natCast, Int.toNat_natCast, str_extract]
      have hlk : (Instr.lookup 126 (.map (some w.heap.size)) (.string (str ((l.take j).drop lo))) false).run Tryz.prog wr = .ok (.bool (decide ((l.take j).drop lo ∈ acc))) wr := by
        have := hI.seen.lookup_v (P := Tryz.prog) (t := 126) keyStr Tryz.underlying126 (zero4 _) ((l.take j).drop lo)
        rw [show (setFn acc ((l.take j).drop lo)).getD (.bool false) = .bool (decide ((l.take j).drop lo ∈ acc)) from by unfold setFn; split <;> simp [*]] at this
        exact this
      have hcl : ((l.take j).drop lo).length ≤ 1000 := by simp; omega
      have hI' : Hid (SplitI w l j lo u3 acc wr) := hI
      have hlt3 := hI.len
      by_cases hcase : ∃ h : j < l.length, l[j] ≠ 32
      · obtain ⟨hlt, hne⟩ := hcase
        have HK : Hid (SplitI w l (j + 1) lo u3 acc wr) := hI.letter hlt hne
        have hv : ((((str l)[j]'(by rw [str_size]; exact hlt)).toNat : Int) != 32) = true := by
          rw [str_get]
          simp only [bne_iff_ne, ne_eq]
          intro e
          exact hne (UInt8.toNat_inj.1 (by simpa using (by omega : l[j].toNat = 32)))
        have hd : decide ((j : Int) < (l.length : Int)) = true := by simp; omega
        have hd' : (j : Int) < (l.length : Int) := by omega
        clear hI hw hsl hlk hI'
        go_wp2
        go_roundw
        case rel => exact ⟨j + 1, lo, acc, rfl, by go_num, by omega, HK.out⟩
        case measure => simp [intOf]; omega
      · have HC : Hid (∀ h : j < l.length, l[j] = 32) := fun h => by
          rcases Classical.em (l[j] = 32) with e | e
          · exact e
          · exact absurd ⟨h, e⟩ hcase
        have hd : (decide ((j : Int) < (l.length : Int)) = false ∧ ¬ (j : Int) < (l.length : Int)) ∨ (∃ h : j < l.length, decide ((j : Int) < (l.length : Int)) = true ∧ (j : Int) < (l.length : Int) ∧ ((((str l)[j]'(by rw [str_size]; exact h)).toNat : Int) != 32) = false) := by
          by_cases hlt : j < l.length
          · right; refine ⟨hlt, by simp; omega, by omega, ?_⟩
            rw [str_get]
            have := HC.out hlt
            simp [this]
          · left; exact ⟨by simp; omega, by omega⟩
        have HW : Hid (∀ {v' : Value} {acc' : List (List UInt8)} {wr' : World}, acc' = addW acc ((l.take j).drop lo) → acc'.length ≤ acc.length + 1 → MapFn wr' w.heap.size kStr (setFn acc') → wr'.ownsRow (w.heap.size + 1) 9 1 v' acc'.length (acc'.map vStr) → Fr No w wr' → w.heap.size + 1 ≤ wr'.heap.size →
            SplitI w l (j + 1) (j + 1) v' acc' wr') := fun ha hl h1 h2 h3 h4 => hI.word hle HC.out ha hl h1 h2 h3 h4
        generalize (l.take j).drop lo = cur at *
        clear hI hw hcase HC
        rcases hd with ⟨hd, hd2⟩ | ⟨hlt, hd, hd2, hd3⟩
        all_goals
          by_cases hnil : cur = []
          · have hn : (str cur).toList.isEmpty = true := by rw [str_toList]; simp [hnil]
            have HK : Hid (SplitI w l (j + 1) (j + 1) u3 acc wr) := HW.out (by unfold addW; rw [if_pos (.inl hnil)]) (by omega) hI'.out.seen hI'.out.own hI'.out.fr hI'.out.big
            clear hlk hnil
            go_wp2
            go_roundw
            case rel => exact ⟨j + 1, j + 1, acc, by go_num, by go_num, by omega, HK.out⟩
            case measure => simp [intOf]; omega
          · have hn : (str cur).toList.isEmpty = false := by rw [str_toList]; simp [hnil]
            by_cases hmem : cur ∈ acc
            · simp only [hmem, decide_true] at hlk
              have HK : Hid (SplitI w l (j + 1) (j + 1) u3 acc wr) := HW.out (by unfold addW; rw [if_pos (.inr hmem)]) (by omega) hI'.out.seen hI'.out.own hI'.out.fr hI'.out.big
              clear hmem hnil
              go_wp2
              go_roundw
              case rel => exact ⟨j + 1, j + 1, acc, by go_num, by go_num, by omega, HK.out⟩
              case measure => simp [intOf]; omega
            · simp only [hmem, decide_false] at hlk
              obtain ⟨wp, hup, hmap, htu⟩ := hI'.out.seen.update' (P := Tryz.prog) (t := 126) keyStr Tryz.underlying126 cur (.bool true)
              simp only [kStr] at hup
              obtain ⟨i0, hi, hz0, hz1, hz2⟩ := info_parts info9
              have hmw := hI'.out.seen.lt
              have hbig := hI'.out.big
              have hown : wp.ownsRow (w.heap.size + 1) 9 1 u3 acc.length (acc.map vStr) := htu.own hI'.out.own (fun e => by have := own_ge hI'.out.own e; omega)
              have hwp : wr.heap.size ≤ wp.heap.size := htu.fr.size
              go_wp2_with (at_builtin; refine wpList_append_own_at _ rfl _ _ 63 rfl (w.heap.size + 1) 9 i0 (.string ⟨#[]⟩) 1 16 Tryz.underlying63 hi hz0 hz1 hz2 rfl (by decide) u3 acc.length _ rfl (hown.alloc _) ⟨wp.heap.size, 0, none⟩ 1 1 [.string (str cur)] rfl rfl (cell_one_new _ _ _) (by intro u hu; simp only [List.mem_singleton] at hu; subst hu; rfl) (by unfold maxLen; omega) (by omega) (by simp; omega) ?_; intro v' w1 hown' hgrow hnil' hloc)
              have hfr1 : Fr (fun k => k = w.heap.size ∨ u3.ownBlock = some k) wr w1 :=
                ((htu.fr.mono (fun k _ e => .inl e)).alloc _).grown hgrow (fun k hk => .inr (.inr hk))
              have HK : Hid (SplitI w l (j + 1) (j + 1) v' (acc ++ [cur]) w1) := by
                refine HW.out (by unfold addW; rw [if_neg (by simp [hnil, hmem])]) (by simp) ?_ ?_ ?_ ?_
                · have h1 : MapFn w1 w.heap.size kStr (upd (setFn acc) cur (some (.bool true))) := by
                    refine hmap.keep ?_
                    rw [hgrow.block _ (by simp; omega) (fun e => by have := own_ge hI'.out.own e.symm; omega), Below.heap_alloc _ _ _ (by omega)]
                  refine h1.congr fun k => ?_
                  unfold setFn upd
                  by_cases hk : k = cur <;> simp [hk]
                · simp only [List.length_append, List.map_append]; exact hown'
                · exact hI'.out.fr.trans' hfr1 (fun i hi e => by
                    rcases e with e | e
                    · omega
                    · have := own_ge hI'.out.own e; omega)
                · have := hfr1.size; omega
              go_roundw
              case rel => exact ⟨j + 1, j + 1, acc ++ [cur], by go_num, by go_num, by omega, HK.out⟩
              case measure => simp [intOf]; omega
    · obtain ⟨hj1, hacc⟩ := hI.at_.resolve_left (fun h => by omega)
      have HA : Hid (acc = wordsOf l) := hacc
      have HK : Hid (SplitI w l j lo u3 acc wr) := hI
      have hd : ¬ (j : Int) ≤ (l.length : Int) := by omega
      clear hI hacc hj1
      go_wp2
      go_ret
      have ho := own_base HK.out.own (Nat.le_succ w.heap.size)
      rw [HA.out] at ho
      exact ⟨u3, rfl, ho, HK.out.fr⟩
end Go.Proofs.Qxb6500357aGreat
