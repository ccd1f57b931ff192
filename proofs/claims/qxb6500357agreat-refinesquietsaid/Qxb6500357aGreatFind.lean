import Derived.Test.Qxb6500357aGreatSets4
namespace Go.Proofs.Qxb6500357aGreat
open Go.RowKit Go.Tag
variable {st0 : Nat}
set_option linter.unusedVariables false
set_option linter.unusedSimpArgs false
set_option maxRecDepth 100000
attribute [local simp] str_size
attribute [local go_sem] str_size

/-- A fresh list of ints and an Errno. -/
def IntsErr (w : World) (L : List Int) (er : Int) (e : Ending) (w' : World) : Prop :=
  ∃ v, e = .returned (.tuple #[v, .int .i64 er]) ∧ w'.ownsRow w.heap.size 3 1 v L.length (L.map (Value.int .i64)) ∧ Fr No w w' ∧ (L = [] → v = .slice none 0 0)

def findErr (op : Int) (a b : Word) : Int := if 12 < a.length ∨ 12 < b.length then 1 else if 1 ≤ op ∧ op ≤ 3 then 0 else 7
def findSet (s : St) (op : Int) (a b : Word) : Int → Bool := if op = 1 then (fun i => hasOf s a i && hasOf s b i) else if op = 2 then (fun i => hasOf s a i || hasOf s b i) else (fun i => hasOf s a i && !hasOf s b i)
def findL (s : St) (op : Int) (a b : Word) : List Int := if findErr op a b = 0 then setL (findSet s op a b) else []

theorem sorted_any (v : Value) (h : Int → Bool) (w : World) (hv : SetV w v h) (hn : Nine h) : Calls Tryz.prog 57 #[v] w (IntsPost w (setL h)) := by
  rcases hv with ⟨rfl, h0⟩ | ⟨b, rfl, hm⟩
  · have : setL h = [] := by unfold setL; rw [List.filter_eq_nil_iff]; intro i _; rw [h0 i]; simp
    rw [this]; exact sorted_nil w
  · exact sorted_map b (setB h) (setL h) w hm (setL_sorted h) (setL_mem hn) (setL_len h)

def isOp (op : Int) : Bool := decide (1 ≤ op ∧ op ≤ 3)
theorem known_any (w : World) (op : Int) : ∃ w1 w2 w3, (Instr.mapUpdate 93 (.map (some w.heap.size)) (.int .i64 1) (.bool true)).run Tryz.prog (w.alloc (.map #[] 0)) = .ok () w1 ∧ (Instr.mapUpdate 93 (.map (some w.heap.size)) (.int .i64 2) (.bool true)).run Tryz.prog w1 = .ok () w2 ∧
    (Instr.mapUpdate 93 (.map (some w.heap.size)) (.int .i64 3) (.bool true)).run Tryz.prog w2 = .ok () w3 ∧ (Instr.lookup 93 (.map (some w.heap.size)) (.int .i64 op) false).run Tryz.prog w3 = .ok (.bool (isOp op)) w3 ∧ Fr No w w3 := by
  obtain ⟨w1, h1, m1, t1⟩ := (mapFn_new (ke := kInt) w).update' (P := Tryz.prog) (t := 93) keyInt Tryz.underlying93 1 (.bool true)
  obtain ⟨w2, h2, m2, t2⟩ := m1.update' (P := Tryz.prog) (t := 93) keyInt Tryz.underlying93 2 (.bool true)
  obtain ⟨w3, h3, m3, t3⟩ := m2.update' (P := Tryz.prog) (t := 93) keyInt Tryz.underlying93 3 (.bool true)
  have hl := m3.lookup_v (P := Tryz.prog) (t := 93) keyInt Tryz.underlying93 (zero4 _) op
  refine ⟨w1, w2, w3, h1, h2, h3, ?_, (((Fr.refl No w).alloc _).trans' t1.fr (fun i hi e => by omega)).trans' t2.fr (fun i hi e => by omega) |>.trans' t3.fr (fun i hi e => by omega)⟩
  have e : (upd (upd (upd (fun _ => none) 1 (some (.bool true))) 2 (some (.bool true))) 3 (some (.bool true)) op).getD (Value.bool false) = .bool (isOp op) := by
    unfold upd isOp
    by_cases e3 : op = 3
    · simp [e3]
    · by_cases e2 : op = 2
      · simp [e2]
      · by_cases e1 : op = 1
        · simp [e1]
        · simp [e1, e2, e3]; omega
  rw [e] at hl; exact hl

section
variable (y x : Nat) (F : Nat → Prop) (s : St) (B : Int) (op : Int) (a b : Word) (w : World)

theorem find_long (h : 12 < a.length ∨ 12 < b.length) : Calls Tryz.prog 24 #[.pointer (some ⟨y, 0, none⟩), .int .i64 op, .string (str a), .string (str b)] w (IntsErr w (findL s op a b) (findErr op a b)) := by
  have hE : findErr op a b = 1 := by unfold findErr; rw [if_pos h]
  have hL : findL s op a b = [] := by unfold findL; rw [if_neg (by rw [hE]; decide)]
  have HE : Hid (IntsErr w (findL s op a b) (findErr op a b) (.returned (.tuple #[.slice none 0 0, .int .i64 1])) w) := by
    rw [hE, hL]; exact ⟨_, rfl, own_nil _ _ _ _, Fr.refl _ _, fun _ => rfl⟩
  clear hE hL
  by_cases ha : 12 < a.length
  · have hd : decide ((12 : Int) < (a.length : Int)) = true := by simp; omega
    clear h ha
    go_enter Tryz.func24, Tryz.ntmps24
    go_wp2
    refine bodyPost_ret (v := .tuple #[.slice none 0 0, .int .i64 1]) (by simp [results, Tryz.results24, go_sem]) rfl HE.out
  · have hd : decide ((12 : Int) < (a.length : Int)) = false := by simp; omega
    have hd2 : decide ((12 : Int) < (b.length : Int)) = true := by simp; omega
    clear h ha
    go_enter Tryz.func24, Tryz.ntmps24
    go_wp2
    refine bodyPost_ret (v := .tuple #[.slice none 0 0, .int .i64 1]) (by simp [results, Tryz.results24, go_sem]) rfl HE.out

set_option maxHeartbeats 1000000 in
theorem find_op (h : ¬ (12 < a.length ∨ 12 < b.length)) (ho : ¬ (1 ≤ op ∧ op ≤ 3)) : Calls Tryz.prog 24 #[.pointer (some ⟨y, 0, none⟩), .int .i64 op, .string (str a), .string (str b)] w (IntsErr w (findL s op a b) (findErr op a b)) := by
  have hd : decide ((12 : Int) < (a.length : Int)) = false := by simp; omega
  have hd2 : decide ((12 : Int) < (b.length : Int)) = false := by simp; omega
  have hmm := @run_makeMap Tryz.prog
  have hE : findErr op a b = 7 := by unfold findErr; rw [if_neg h, if_neg ho]
  have hL : findL s op a b = [] := by unfold findL; rw [if_neg (by rw [hE]; decide)]
  have HE : Hid (∀ w3, Fr No w w3 → IntsErr w (findL s op a b) (findErr op a b) (.returned (.tuple #[.slice none 0 0, .int .i64 7])) w3) := by
    intro w3 hf; rw [hE, hL]; exact ⟨_, rfl, own_nil _ _ _ _, hf, fun _ => rfl⟩
  obtain ⟨w1, w2, w3, k1, k2, k3, k4, k5⟩ := known_any w op
  have ho' : isOp op = false := by unfold isOp; simp only [decide_eq_false_iff_not]; exact ho
  rw [ho'] at k4
  clear hE hL h ho
  go_enter Tryz.func24, Tryz.ntmps24
  go_wp2
  refine bodyPost_ret (v := .tuple #[.slice none 0 0, .int .i64 7]) (by simp [results, Tryz.results24, go_sem]) rfl (HE.out _ k5)

theorem hasOf_nine (hf : Fine s B) (u : Word) : Nine (hasOf s u) := fun i hi => hasOf_dom hf hi

set_option maxHeartbeats 1000000 in
theorem find_good (hq : QAt st0 w F y x s) (hf : Fine s B) (h : ¬ (12 < a.length ∨ 12 < b.length)) (ho : 1 ≤ op ∧ op ≤ 3) : Calls Tryz.prog 24 #[.pointer (some ⟨y, 0, none⟩), .int .i64 op, .string (str a), .string (str b)] w (IntsErr w (findL s op a b) (findErr op a b)) := by
  have hd : decide ((12 : Int) < (a.length : Int)) = false := by simp; omega
  have hd2 : decide ((12 : Int) < (b.length : Int)) = false := by simp; omega
  have hmm := @run_makeMap Tryz.prog
  have hE : findErr op a b = 0 := by unfold findErr; rw [if_neg h, if_pos ho]
  have hL : findL s op a b = setL (findSet s op a b) := by unfold findL; rw [if_pos hE]
  obtain ⟨w1, w2, w3, k1, k2, k3, k4, k5⟩ := known_any w op
  have ho' : isOp op = true := by unfold isOp; simp only [decide_eq_true_eq]; exact ho
  rw [ho'] at k4
  have HQ : Hid (∀ w', Fr No w w' → QAt st0 w' F y x s) := fun w' f => ⟨f.heap hq.1 (fun h => h), hq.2.frNo f⟩
  have HN : Hid (Nine (hasOf s a) ∧ Nine (hasOf s b)) := ⟨hasOf_nine s B hf a, hasOf_nine s B hf b⟩
  have HF : Hid (Fine s B) := hf
  have HA : Hid (Calls Tryz.prog 53 #[.pointer (some ⟨y, 0, none⟩), .string (str a)] w3 (MapPost w3 (hasOf s a))) := holders_any y x F s B a w3 (HQ.out w3 k5) hf
  have HE : Hid (∀ w6 e w7, Fr No w w6 → IntsPost w6 (setL (findSet s op a b)) e w7 → ∃ v, e = .returned v ∧ IntsErr w (findL s op a b) (findErr op a b) (.returned (.tuple #[v, .int .i64 0])) w7) := by
    rintro w6 e w7 f6 ⟨v, rfl, ho, f7, hn⟩
    refine ⟨v, rfl, v, by rw [hE], ?_, f6.trans f7, ?_⟩
    · rw [hL]; exact own_base ho f6.size
    · rw [hL]; exact hn
  clear hE hL h hq hf
  rcases (by omega : op = 1 ∨ op = 2 ∨ op = 3) with rfl | rfl | rfl
  all_goals
    simp only [findSet, if_true, if_false, (by decide : (2 : Int) = 1 ↔ False), (by decide : (3 : Int) = 1 ↔ False), (by decide : (3 : Int) = 2 ↔ False)] at HE
    go_enter Tryz.func24, Tryz.ntmps24
    go_wp2_with first
      | (go_at_call 53
         first
           | (refine HB.out.mono ?_; rintro e w5 ⟨bB, rfl, hB1, hB2, f5⟩
              have HA5 : Hid (MapFn w5 bA kInt (setB (hasOf s a)) ∧ MapFn w5 bB kInt (setB (hasOf s b)) ∧ Fr No w w5) := ⟨HA4.out.1.fr f5 (fun h => h), hB2, HA4.out.2.trans f5⟩
              clear hB2 f5)
           | (refine HA.out.mono ?_; rintro e w4 ⟨bA, rfl, hA1, hA2, f4⟩
              have HA4 : Hid (MapFn w4 bA kInt (setB (hasOf s a)) ∧ Fr No w w4) := ⟨hA2, k5.trans f4⟩
              have HB : Hid (Calls Tryz.prog 53 #[.pointer (some ⟨y, 0, none⟩), .string (str b)] w4 (MapPost w4 (hasOf s b))) := holders_any y x F s B b w4 (HQ.out w4 HA4.out.2) HF.out
              clear hA2 f4))
      | (go_at_call 54; refine (both_any bA bB (hasOf s a) (hasOf s b) w5 HA5.out.1 HA5.out.2.1 HN.out.1 HN.out.2).mono ?_; rintro e w6 ⟨v6, rfl, hS6, f6⟩
         have HS6 : Hid (Calls Tryz.prog 57 #[v6] w6 (IntsPost w6 (setL fun i => hasOf s a i && hasOf s b i)) ∧ Fr No w w6) := ⟨sorted_any v6 _ w6 hS6 (fun i hi => HN.out.1 i (Bool.and_eq_true_iff.1 hi).1), HA5.out.2.2.trans f6⟩
         clear hS6 f6)
      | (go_at_call 55; refine (either_any bA bB (hasOf s a) (hasOf s b) w5 HA5.out.1 HA5.out.2.1 HN.out.1 HN.out.2).mono ?_; rintro e w6 ⟨v6, rfl, hS6, f6⟩
         have HS6 : Hid (Calls Tryz.prog 57 #[v6] w6 (IntsPost w6 (setL fun i => hasOf s a i || hasOf s b i)) ∧ Fr No w w6) := ⟨sorted_any v6 _ w6 hS6 (fun i hi => (Bool.or_eq_true_iff.1 hi).elim (HN.out.1 i) (HN.out.2 i)), HA5.out.2.2.trans f6⟩
         clear hS6 f6)
      | (go_at_call 56; refine (without_any bA bB (hasOf s a) (hasOf s b) w5 HA5.out.1 HA5.out.2.1 HN.out.1 HN.out.2).mono ?_; rintro e w6 ⟨v6, rfl, hS6, f6⟩
         have HS6 : Hid (Calls Tryz.prog 57 #[v6] w6 (IntsPost w6 (setL fun i => hasOf s a i && !hasOf s b i)) ∧ Fr No w w6) := ⟨sorted_any v6 _ w6 hS6 (fun i hi => HN.out.1 i (Bool.and_eq_true_iff.1 hi).1), HA5.out.2.2.trans f6⟩
         clear hS6 f6)
      | (go_at_call 57; refine HS6.out.1.mono ?_; intro e w7 hP
         obtain ⟨v7, rfl, hP7⟩ := HE.out w6 e w7 HS6.out.2 hP
         have HP7 : Hid (IntsErr w _ _ (.returned (.tuple #[v7, .int .i64 0])) w7) := hP7
         clear hP hP7)
    refine bodyPost_ret (v := .tuple #[v7, .int .i64 0]) (by simp [results, Tryz.results24, go_sem]) rfl HP7.out
theorem find_any (hq : QAt st0 w F y x s) (hf : Fine s B) : Calls Tryz.prog 24 #[.pointer (some ⟨y, 0, none⟩), .int .i64 op, .string (str a), .string (str b)] w (IntsErr w (findL s op a b) (findErr op a b)) := by
  by_cases h : 12 < a.length ∨ 12 < b.length
  · exact find_long y s op a b w h
  · by_cases ho : 1 ≤ op ∧ op ≤ 3
    · exact find_good y x F s B op a b w hq hf h ho
    · exact find_op y s op a b w h ho
end
end Go.Proofs.Qxb6500357aGreat
