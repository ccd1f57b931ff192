/- The model's index: Words. -/
import Derived.Test.Qxb6500357aGreatMIx2
namespace Go.Tag
open Go.RowKit Go.Proofs.Qxb6500357aGreat
set_option linter.unusedVariables false
set_option linter.unusedSimpArgs false
def wordsTo (s : St) (q : Nat) : List Word := intoAll [] ((s.ids.take q).flatMap fun i => wordsL (s.textOf i))
theorem intoAll_append (acc a c : List Word) : intoAll acc (a ++ c) = intoAll (intoAll acc a) c := by unfold intoAll; rw [List.foldl_append]
theorem intoAll_snoc (acc ws : List Word) (k : Nat) (h : k < ws.length) : intoAll acc (ws.take (k + 1)) = into (intoAll acc (ws.take k)) ws[k] := by
  rw [take_snoc ws k h, intoAll_append]; rfl
theorem intoAll_len : ∀ (ws acc : List Word), (intoAll acc ws).length ≤ acc.length + ws.length
  | [], acc => by unfold intoAll; simp
  | a :: ws, acc => by
    have h1 := intoAll_len ws (into acc a)
    have h2 := into_len a acc
    have e : intoAll acc (a :: ws) = intoAll (into acc a) ws := rfl
    rw [e]; simp only [List.length_cons]; omega
theorem wordsTo_zero (s : St) : wordsTo s 0 = [] := rfl
theorem wordsTo_succ (s : St) (q : Nat) (h : q < s.ids.length) : wordsTo s (q + 1) = intoAll (wordsTo s q) (wordsL (s.textOf s.ids[q])) := by
  unfold wordsTo; rw [take_snoc s.ids q h, List.flatMap_append, intoAll_append]; simp
theorem wordsTo_all (s : St) (q : Nat) (h : s.ids.length ≤ q) : wordsTo s q = s.words := by
  refine sorted_unique (lt := fun a b : Word => a < b) wlt_irr wlt_as _ _ (intoAll_sorted _ _ List.Pairwise.nil) (words_sorted s) (fun u => ?_)
  unfold wordsTo St.words
  rw [List.take_of_length_le h, intoAll_mem, intoAll_mem]
  simp only [List.not_mem_nil, false_or, List.mem_flatMap]
  constructor
  · rintro ⟨i, hi, hu⟩
    refine ⟨i, ?_, (wordsL_mem _ _).1 hu⟩
    unfold St.ids at hi
    exact (List.mem_filter.1 hi).1
  · rintro ⟨i, hi, hu⟩
    refine ⟨i, ?_, (wordsL_mem _ _).2 hu⟩
    unfold St.ids
    refine List.mem_filter.2 ⟨hi, ?_⟩
    cases hd : s.docs i with
    | none =>
      have e : s.textOf i = [] := by unfold St.textOf; rw [hd]
      rw [e, wordsOf_run] at hu
      obtain ⟨a, c, he, -, -, -, hne⟩ := hu
      have : u = [] := by
        have h1 := congrArg List.length he
        simp only [List.length_nil, List.length_append] at h1
        exact List.eq_nil_of_length_eq_zero (by omega)
      exact absurd this hne
    | some d => rfl
def SlB (base : Nat) (v : Value) : Prop := ∀ k, v.ownBlock = some k → base ≤ k
theorem SlW.frB {w w' : World} {v : Value} {L : List Word} (h : SlW w v L) {S : Nat → Prop} (f : Fr S w w') (hs : ∀ k, v.ownBlock = some k → ¬ S k) : SlW w' v L := by
  rcases h with h | ⟨g, cap, hv, hc, h⟩
  · exact .inl h
  · exact .inr ⟨g, cap, hv, hc, fun j hj => f.cell (h j hj) (hs g (by rw [hv]; rfl))⟩
/-- The loop's state. -/
structure WordI (w8 : World) (F : Nat → Prop) (b : Nat) (s : St) (q : Nat) (v : Value) (wr : World) : Prop where
  st : MS wr F b s
  fr : Fr F w8 wr
  sl : SlW wr v (wordsTo s q)
  base : SlB w8.heap.size v
  len : (wordsTo s q).length ≤ 13 * q
/-- The inner loop's. -/
structure WordK (wa : World) (base : Nat) (acc0 ws : List Word) (k : Nat) (v : Value) (wr : World) : Prop where
  fr : Fr No wa wr
  sl : SlW wr v (intoAll acc0 (ws.take k))
  base : SlB base v
end Go.Tag
namespace Go.Proofs.Qxb6500357aGreat
open Go.RowKit Go.Tag
set_option linter.unusedVariables false
set_option linter.unusedSimpArgs false
set_option maxRecDepth 100000
attribute [local simp] str_size
attribute [local go_sem] str_size
def MXWords (w : World) (F : Nat → Prop) (x b : Nat) (s : St) (L : List Word) (e : Ending) (w' : World) : Prop := ∃ v, e = .returned v ∧ SlW w' v L ∧ SlB w.heap.size v ∧ MX w' F x b s ∧ Fr (FX F x) w w'
section
variable (x b : Nat) (F : Nat → Prop) (s : St) (B : Int) (w : World)
set_option maxHeartbeats 4000000 in
theorem mxWords_any (h : MX w F x b s) (hf : Fine s B) : Calls Tryz.prog 74 #[.pointer (some ⟨x, 0, none⟩)] w (MXWords w F x b s s.words) := by
  obtain ⟨ax, h⟩ := h
  obtain ⟨c0, c1, fz, hxl⟩ := h.cells
  have HI : Hid (∀ v, Calls Tryz.prog 93 #[.pointer (some ⟨b, 0, none⟩)] (w.setCell ⟨x, 1, none⟩ (.int .i64 v)) fun e w8 => ∃ v8, e = .returned v8 ∧ w8.ownsRow w.heap.size 3 1 v8 s.ids.length (s.ids.map (Value.int .i64)) ∧ MXat w8 F x b s v ∧ Fr (FX F x) w w8) := fun v => (mIds_any b F s _ (h.ask v).st (by have := hf.size; omega)).mono fun e w' ⟨v8, h1, h2, h3, h4, _⟩ => ⟨v8, h1, own_base h2 (by simp), (h.ask v).ofS h3 h4, (askX_fr _).trans (fr_FX h4)⟩
  have HF : Hid (∀ k, F k → k < w.heap.size) := h.st.lt
  have HX : Hid (¬ F x) := h.ne
  have hn6 := hf.size
  have HFI : Hid (Fine s B) := hf
  obtain ⟨n, hn⟩ : ∃ n, s.ids.length = n := ⟨_, rfl⟩
  have HN : Hid (s.ids.length = n) := hn
  rw [hn] at hn6
  clear h hf hn
  go_enter Tryz.func74, Tryz.ntmps74
  go_wp2_with (go_at_call 93; refine (HI.out _).mono ?_; rintro e w8 ⟨v8, rfl, ho8, hM8, f8⟩
               have c8 := hM8.cells.1
               have hx8 := hM8.cells.2.2.2
               obtain ⟨a8, cap8, rfl, hc8⟩ := own_sl ho8
               simp only [List.length_map, HN.out] at ho8 ⊢)
  have HC8 : Hid (∀ j (hj : j < s.ids.length), ∃ g o, a8 = some ⟨g, o, none⟩ ∧ w.heap.size ≤ g ∧ w8.cell? ⟨g, o + j, none⟩ = some (.int .i64 s.ids[j])) := fun j hj => by
    obtain ⟨g, o, e1, e2⟩ := hc8 j (.int .i64 s.ids[j]) (by simp [hj])
    exact ⟨g, o, e1, (own_ge ho8 (k := g) (by rw [e1]; rfl)).1, e2⟩
  have H0 : Hid (WordI w8 F b s 0 (.slice none 0 0) w8) := ⟨hM8.st, Fr.refl _ _, .inl ⟨rfl, rfl⟩, fun k hk => by simp [Value.ownBlock] at hk, by rw [wordsTo_zero]; simp⟩
  have HW8 : Hid (w.heap.size ≤ w8.heap.size ∧ Fr (FX F x) w w8 ∧ ∃ v, MXat w8 F x b s v) := ⟨f8.size, f8, _, hM8⟩
  clear ho8 hc8 hM8 f8 HI
  go_loopw [3, 5] (fun l i wr => ∃ q : Nat, q ≤ n ∧ i = .int .i64 q ∧ WordI w8 F b s q l wr) (fun _ i _ => n - (intOf i).toNat)
  case atStart => exact ⟨0, Nat.zero_le _, rfl, H0.out⟩
  case round =>
    obtain ⟨q, hq, rfl, hP⟩ := hrel
    by_cases hlt : q < n
    · have hql : q < s.ids.length := by rw [HN.out]; exact hlt
      obtain ⟨g8, o8, rfl, hg8, k8⟩ := HC8.out q hql
      have hFg : ¬ F g8 := fun e => by have := HF.out g8 e; omega
      have k8 := hP.fr.cell k8 hFg
      have c0r := hP.fr.cell c8 HX.out
      have hxr : x < wr.heap.size := Nat.lt_of_lt_of_le hx8 hP.fr.size
      have hgr : g8 < wr.heap.size := World.block_lt_of_cell? _ _ k8
      have hd1 : (q : Int) < (n : Int) := by omega
      have hmem : s.ids[q] ∈ s.ids := List.getElem_mem hql
      obtain ⟨d, hdd⟩ := Option.isSome_iff_exists.1 ((mem_ids HFI.out s.ids[q]).1 hmem)
      have hdm := HFI.out.dom _ d hdd
      have HSUC : Hid (wordsTo s (q + 1) = intoAll (wordsTo s q) (wordsL d.text)) := by
        rw [Hid, wordsTo_succ s q hql, textOf_some hdd]
      have HGET : Hid (∀ W, Fr No wr W → Calls Tryz.prog 94 #[.pointer (some ⟨b, 0, none⟩), .int .i64 s.ids[q]] W fun e w' => e = .returned (.tuple #[.agg #[.int .i64 s.ids[q], .int .i64 d.group, .string (str d.text)], .int .i64 0]) ∧ MS w' F b s ∧ Fr F W w') := fun W f => by
        have := mGet_any b F s B W s.ids[q] (hP.st.frNo f) HFI.out
        rw [getErr_some hdm.1 hdd, getDoc_some hdd] at this
        exact this
      have HP : Hid (WordI w8 F b s q u3 wr) := hP
      have htl : d.text.length ≤ 12 := hdm.2.2.1
      generalize s.ids[q] = id at *
      clear hP hmem hdd hdm hql
      have hwr : w.heap.size ≤ wr.heap.size := by have := HW8.out.1; have := HP.out.fr.size; omega
      have HB1 : Hid ((wr.alloc (.cells #[.int .i64 0, .int .i64 0, .string (str [])] 88)).drew.heap[wr.heap.size]? = some (.cells #[.int .i64 0, .int .i64 0, .string (str [])] 88)) := heap_alloc_new wr _
      have hxne : x ≠ wr.heap.size := by omega
      have hgne : g8 ≠ wr.heap.size := by omega
      have hxne2 : wr.heap.size ≠ x := by omega
      have hgne2 : wr.heap.size ≠ g8 := by omega
      obtain ⟨wo, hwo⟩ : ∃ wo, wo = wr := ⟨_, rfl⟩
      subst hwo
      go_upto_region 7 with fail
      go_cut [6, 7] from 28 to 39 (fun p e wx => PickCut w wo F b s id d p e wx)
      case first =>
        go_region_held3 (fun w' => w'.cell? ⟨x, 0, none⟩ = some (.pointer (some ⟨b, 0, none⟩)) ∧ w'.cell? ⟨g8, o8 + q, none⟩ = some (.int .i64 id)) (go_keep)
          (first
            | (go_at_call 94
               refine (HGET.out _ (by first | exact (Fr.refl No wo).drew | exact ((Fr.refl No wo).alloc _).drew)).mono ?_
               rintro e w3 ⟨rfl, hM3, f3⟩
               have x3 : w3.cell? ⟨x, 0, none⟩ = some (.pointer (some ⟨b, 0, none⟩)) := f3.cell (by first | exact c0r | exact ((Fr.refl No wo).alloc _).cell c0r (fun h => h)) HX.out
               have g3 : w3.cell? ⟨g8, o8 + q, none⟩ = some (.int .i64 id) := f3.cell (by first | exact k8 | exact ((Fr.refl No wo).alloc _).cell k8 (fun h => h)) hFg
               have hx3 : x < w3.heap.size := World.block_lt_of_cell? _ _ x3
               have hg3 : g8 < w3.heap.size := World.block_lt_of_cell? _ _ g3
               first
                 | (have hb3 : w3.heap[wo.heap.size]? = some (.cells #[.int .i64 0, .int .i64 0, .string (str [])] 88) := f3.heap (by first | with_reducible exact HB1.out | exact HB1.out) (fun e => by have := HF.out _ e; omega)
                    have q0 := cell_of_heap hb3 0
                    have q1 := cell_of_heap hb3 1
                    have q2 := cell_of_heap hb3 2
                    simp only [List.getElem?_toArray, List.getElem?_cons_zero, List.getElem?_cons_succ] at q0 q1 q2
                    have fz := frozen_of_heap hb3
                    have HCC : Hid (PickCut w wo F b s id d (.pointer (some ⟨wo.heap.size, 0, none⟩)) (.int .i64 0) (((w3.setCell ⟨wo.heap.size, 0, none⟩ (.int .i64 id)).setCell ⟨wo.heap.size, 1, none⟩ (.int .i64 d.group)).setCell ⟨wo.heap.size, 2, none⟩ (.string (str d.text)))) :=
                      ⟨_, rfl, rfl, doc_set hb3 _ _ _, hM3.fr (fr_doc w3 _ _ _ _) (fun k hk e => by have := HF.out k hk; omega), ((((Fr.refl F wo).alloc _).drew).trans f3).trans' (fr_doc w3 _ _ _ _) (fun i hi e => by omega)⟩
                    clear hb3)
                 | (have HCC : Hid (PickCut w wo F b s id d (.pointer (some ⟨w3.heap.size, 0, none⟩)) (.int .i64 0) (w3.alloc (.cells #[.int .i64 id, .int .i64 d.group, .string (str d.text)] 88))) :=
                      ⟨_, rfl, rfl, heap_alloc_new w3 _, hM3.frNo ((Fr.refl No w3).alloc _), (((Fr.refl F wo).drew).trans f3).alloc _⟩)
               clear hM3 f3))
        all_goals
          go_wp2
          go_meet
          case rel => exact HCC.out
      case rest =>
        obtain ⟨db, rfl, rfl, hdb, hMc, fc⟩ := hcut
        have x2 := cell_of_heap hdb 2
        simp only [List.getElem?_toArray, List.getElem?_cons_zero, List.getElem?_cons_succ] at x2
        have HPC : Hid (MS wc F b s ∧ Fr F w8 wc ∧ SlW wc u3 (wordsTo s q) ∧ SlB w8.heap.size u3) := ⟨hMc, HP.out.fr.trans fc, HP.out.sl.frB fc (fun k hk e => by have := HP.out.base k hk; have := HF.out k e; have := HW8.out.1; omega), HP.out.base⟩
        have HLQ : Hid ((wordsTo s q).length ≤ 13 * q) := HP.out.len
        have HWD : Hid (Calls Tryz.prog 95 #[.string (str d.text)] wc (WordsPost wc (wordsL d.text))) := apiWords_any d.text wc (by omega)
        have hwl := wordsL_len d.text
        have HLS : Hid ((wordsTo s (q + 1)).length ≤ 13 * (q + 1)) := by
          rw [Hid, HSUC.out]
          have h1 := intoAll_len (wordsL d.text) (wordsTo s q)
          have h2 := HLQ.out
          omega
        generalize wordsTo s q = acc0 at *
        generalize wordsL d.text = ws at *
        obtain ⟨m, hm⟩ : ∃ m, ws.length = m := ⟨_, rfl⟩
        have HMM : Hid (ws.length = m) := hm
        rw [hm] at hwl
        clear hMc fc hm k8 c0r hxr hgr HB1 HGET HP
        go_wp2_with (go_at_call 95; refine HWD.out.mono ?_; rintro e wa ⟨vl, rfl, hvl, fa⟩
                     obtain ⟨al, capl, rfl, hcl⟩ := hvl.sl
                     simp only [List.length_map, HMM.out])
        have HCL : Hid (∀ j (hj : j < ws.length), ∃ g o, al = some ⟨g, o, none⟩ ∧ wa.cell? ⟨g, o + j, none⟩ = some (.string (str ws[j]))) := fun j hj => by
          obtain ⟨g, o, e1, e2⟩ := hcl j (.string (str ws[j])) (by simp [hj])
          exact ⟨g, o, e1, e2⟩
        have HK0 : Hid (WordK wa w8.heap.size acc0 ws 0 u3 wa) := ⟨Fr.refl _ _, by rw [List.take_zero]; exact HPC.out.2.2.1.fr fa, HPC.out.2.2.2⟩
        have HWA : Hid (MS wa F b s ∧ Fr F w8 wa) := ⟨HPC.out.1.frNo fa, HPC.out.2.1.trans fa.any⟩
        clear hcl hvl fa HPC
        go_loopw [3, 9] (fun l i wr => ∃ k : Nat, k ≤ m ∧ i = .int .i64 k ∧ WordK wa w8.heap.size acc0 ws k l wr) (fun _ i _ => m - (intOf i).toNat)
        case atStart => exact ⟨0, Nat.zero_le _, rfl, HK0.out⟩
        case round =>
          obtain ⟨k, hk, rfl, hK⟩ := hrel
          by_cases hkm : k < m
          · have hkl : k < ws.length := by rw [HMM.out]; exact hkm
            obtain ⟨gl, ol, rfl, cl⟩ := HCL.out k hkl
            have cl := hK.fr.cell cl (fun h => h)
            have hd2 : (k : Int) < (m : Int) := by omega
            have HIN : Hid (Calls Tryz.prog 96 #[u3, .string (str ws[k])] wr fun e w' => ∃ v', e = .returned v' ∧ WordK wa w8.heap.size acc0 ws (k + 1) v' w') := by
              have hl1 := intoAll_len (ws.take k) acc0
              have hl2 : (ws.take k).length ≤ ws.length := by simp; omega
              have h3 := HLQ.out
              have h4 := HMM.out
              refine (into_any u3 _ ws[k] wr hK.sl (by omega)).mono ?_
              rintro e w' ⟨v', e1, e2, e3, e4⟩
              refine ⟨v', e1, hK.fr.trans e3, by rw [intoAll_snoc acc0 ws k hkl]; exact e2, ?_⟩
              rcases e4 with rfl | e4
              · exact hK.base
              · intro kk hkk
                have h5 := e4 kk hkk
                have h6 := hK.fr.size
                have h7 := HWA.out.2.size
                omega
            generalize ws[k] = wk at *
            clear hK
            go_wp2_with (go_at_call 96; refine HIN.out.mono ?_; rintro e w5 ⟨v', rfl, hK5⟩
                         have HK5 : Hid (WordK wa w8.heap.size acc0 ws (k + 1) v' w5) := hK5
                         clear hK5)
            go_roundw
            case rel => exact ⟨k + 1, by omega, by go_num, HK5.out⟩
            case measure => simp [intOf]; omega
          · have HE : Hid (WordI w8 F b s (q + 1) u3 wr) := by
              have e : ws.take k = ws := List.take_of_length_le (by rw [HMM.out]; omega)
              have h1 := hK.sl
              rw [e] at h1
              exact ⟨HWA.out.1.frNo hK.fr, HWA.out.2.trans hK.fr.any, by rw [HSUC.out]; exact h1, hK.base, HLS.out⟩
            have hd2 : ¬ (k : Int) < (m : Int) := by omega
            clear hK
            go_wp2
            go_roundw
            case rel => exact ⟨q + 1, by omega, by go_num, HE.out⟩
            case measure => simp [intOf]; omega
    · have hqn : q = n := by omega
      have HE : Hid (MXWords w F x b s s.words (.returned u3) wr) := by
        have e : wordsTo s q = s.words := wordsTo_all s q (by rw [HN.out]; omega)
        have h1 := hP.sl
        rw [e] at h1
        obtain ⟨v, hv⟩ := HW8.out.2.2
        exact ⟨u3, rfl, h1, fun k hk => Nat.le_trans HW8.out.1 (hP.base k hk), ⟨v, hv.ofS hP.st hP.fr⟩, HW8.out.2.1.trans (fr_FX hP.fr)⟩
      have hd1 : ¬ (q : Int) < (n : Int) := by omega
      clear hP
      go_wp2
      go_ret
      exact HE.out
end
end Go.Proofs.Qxb6500357aGreat
