import Derived.Test.Qxb6500357aGreatIxDrop
import Derived.Test.Qxb6500357aGreatExam
namespace Go.Proofs.Qxb6500357aGreat
open Go.RowKit Go.Tag
variable {st0 : Nat}
set_option linter.unusedVariables false
set_option linter.unusedSimpArgs false
set_option maxRecDepth 100000
attribute [local simp] str_size
attribute [local go_sem] str_size

theorem hasOf_reset (s : St) : hasOf s.reset = fun _ _ => false := by funext u i; rfl

section
variable (x : Nat) (F : Nat → Prop) (s : St) (B : Int) (w : World)
set_option maxHeartbeats 400000 in
theorem ixReset_any (h : Both st0 w F x s) (hf : Fine s B) : Calls Tryz.prog 64 #[.pointer (some ⟨x, 0, none⟩)] w (TurnPost st0 w F x (s.ids.length : Int) s.reset) := by
  obtain ⟨b, bd, br, bg, p, bi, bb, q, Fs, Fi, hb, hF⟩ := h
  have hr0 : w.cell? ⟨x, 0, none⟩ = some (.pointer (some ⟨b, 0, none⟩)) := by rw [cell_of_heap hb.ix.root]; rfl
  have hr1 : w.cell? ⟨x, 1, none⟩ = some (.map (some bi)) := by rw [cell_of_heap hb.ix.root]; rfl
  have hr2 : w.cell? ⟨x, 2, none⟩ = some (.map (some bb)) := by rw [cell_of_heap hb.ix.root]; rfl
  obtain ⟨m1, m2, _⟩ := hb.ix.ne_root
  have hxw := hb.ix.lt.1
  obtain ⟨w1, hcl1, hm1, ht1⟩ := hb.ix.inv.clear' (P := Tryz.prog) (t := 71) Tryz.underlying71
  obtain ⟨w2, hcl2, hm2, ht2⟩ := (hb.ix.by_.keep (ht1.other (Ne.symm hb.ix.ne.1))).clear' (P := Tryz.prog) (t := 72) Tryz.underlying72
  have hr21 := ht1.cell (Ne.symm m1) hr2
  have hr02 := ht2.cell (Ne.symm m2) (ht1.cell (Ne.symm m1) hr0)
  have hx1 : x < w1.heap.size := by rw [ht1.size]; exact hxw
  have hx2 : x < w2.heap.size := by rw [ht2.size]; exact hx1
  have f12 : Fr Fi w w2 := (ht1.fr.mono (fun k _ e => by rw [e]; exact hb.ix.own.2.1)).trans (ht2.fr.mono (fun k _ e => by rw [e]; exact hb.ix.own.2.2.1))
  have HC : Hid (Calls Tryz.prog 88 #[.pointer (some ⟨b, 0, none⟩)] w2 (ResetPost w2 Fs b s bd br bg p)) := storeReset_any b bd br bg p Fs s B w2 (hb.st.fr f12 (fun k hk e => hb.dis k hk e)) hf
  have HX : Hid (IndexAt w2 Fi x b bi bb (hasOf s.reset) s.reset.groupOf q) := by
    rw [Hid, hasOf_reset]
    refine ⟨by rw [ht2.other (Ne.symm m2), ht1.other (Ne.symm m1)]; exact hb.ix.root, ?_, fun u hu => absurd (cntW_false u) hu, fun u v hu => absurd (cntW_false u) hu, ?_, ⟨hb.ix.ne.1, fun u hu => absurd (cntW_false u) hu⟩, by simp, hb.ix.own.1, hb.ix.own.2.1, hb.ix.own.2.2.1, fun u hu => absurd (cntW_false u) hu⟩
    · exact (hm1.keep (ht2.other hb.ix.ne.1)).congr (fun u => by unfold fInv; rw [if_pos (cntW_false u)])
    · exact hm2.congr (fun k => by unfold fBy; rw [if_pos (cntBy_false _ k)])
  have HF : Hid (∀ w3, StoreAt w3 Fs b s.reset bd br bg p → Fr Fs w2 w3 → TurnPost st0 w F x (s.ids.length : Int) s.reset (.returned (.int .i64 (s.ids.length : Int))) w3) := fun w3 h3 f3 => by
    have f : Fr F w w3 := (f12.mono (fun k _ hk => hF k (.inr hk))).trans' f3 (fun k _ hk => hF k (.inl hk))
    exact ⟨rfl, ⟨b, bd, br, bg, p, bi, bb, q, Fs, Fi, ⟨h3, HX.out.fr f3 (fun k hk e => hb.dis k e hk), hb.dis, fun k hk => Nat.lt_of_lt_of_le (hb.ls k hk) f.size, fun k hk => Nat.lt_of_lt_of_le (hb.li k hk) f.size, hb.eb⟩, fun k hk => .inl (hF k hk)⟩, f⟩
  clear hb hm1 hm2 ht1 ht2 f12 hF
  go_enter Tryz.func64, Tryz.ntmps64
  go_wp2_with (go_at_call 88; refine HC.out.mono ?_; rintro e w3 ⟨rfl, h3, f3, -⟩
               have HZ : Hid (TurnPost st0 w F x (s.ids.length : Int) s.reset (.returned (.int .i64 (s.ids.length : Int))) w3) := HF.out w3 h3 f3
               clear h3 f3)
  go_ret
  exact HZ.out
end

section
variable (y x : Nat) (F : Nat → Prop) (s : St) (B : Int) (w : World)
theorem qDel_any (id : Int) (h : QAt st0 w F y x s) (hf : Fine s B) : Calls Tryz.prog 22 #[.pointer (some ⟨y, 0, none⟩), .int .i64 id] w (TurnPost st0 w F x (s.getErr id) (s.delR id)) := by
  have hr0 : w.cell? ⟨y, 0, none⟩ = some (.pointer (some ⟨x, 0, none⟩)) := by rw [cell_of_heap h.1]; rfl
  have HC : Hid (Calls Tryz.prog 51 #[.pointer (some ⟨x, 0, none⟩), .int .i64 id] w (TurnPost st0 w F x (s.getErr id) (s.delR id))) := ixDel_any x F s B id w h.2 hf
  clear h hf
  go_enter Tryz.func22, Tryz.ntmps22
  go_wp2_with (go_at_call 51; refine HC.out.mono ?_; rintro e w1 ⟨rfl, h1, h2⟩)
  go_ret
  exact ⟨rfl, h1, h2⟩
theorem qDrop_any (g : Int) (h : QAt st0 w F y x s) (hf : Fine s B) : Calls Tryz.prog 23 #[.pointer (some ⟨y, 0, none⟩), .int .i64 g] w (TurnPost st0 w F x (s.cnt g) (s.drop g)) := by
  have hr0 : w.cell? ⟨y, 0, none⟩ = some (.pointer (some ⟨x, 0, none⟩)) := by rw [cell_of_heap h.1]; rfl
  have HC : Hid (Calls Tryz.prog 52 #[.pointer (some ⟨x, 0, none⟩), .int .i64 g] w (TurnPost st0 w F x (s.cnt g) (s.drop g))) := ixDrop_any x F s B g w h.2 hf
  clear h hf
  go_enter Tryz.func23, Tryz.ntmps23
  go_wp2_with (go_at_call 52; refine HC.out.mono ?_; rintro e w1 ⟨rfl, h1, h2⟩)
  go_ret
  exact ⟨rfl, h1, h2⟩
theorem qReset_any (h : QAt st0 w F y x s) (hf : Fine s B) : Calls Tryz.prog 31 #[.pointer (some ⟨y, 0, none⟩)] w (TurnPost st0 w F x (s.ids.length : Int) s.reset) := by
  have hr0 : w.cell? ⟨y, 0, none⟩ = some (.pointer (some ⟨x, 0, none⟩)) := by rw [cell_of_heap h.1]; rfl
  have HC : Hid (Calls Tryz.prog 64 #[.pointer (some ⟨x, 0, none⟩)] w (TurnPost st0 w F x (s.ids.length : Int) s.reset)) := ixReset_any x F s B w h.2 hf
  clear h hf
  go_enter Tryz.func31, Tryz.ntmps31
  go_wp2_with (go_at_call 64; refine HC.out.mono ?_; rintro e w1 ⟨rfl, h1, h2⟩)
  go_ret
  exact ⟨rfl, h1, h2⟩
theorem qLen_any (h : QAt st0 w F y x s) (hf : Fine s B) : Calls Tryz.prog 30 #[.pointer (some ⟨y, 0, none⟩)] w fun e w' => e = .returned (.int .i64 (s.ids.length : Int)) ∧ w' = w := by
  have hr0 : w.cell? ⟨y, 0, none⟩ = some (.pointer (some ⟨x, 0, none⟩)) := by rw [cell_of_heap h.1]; rfl
  have HC : Hid (Calls Tryz.prog 63 #[.pointer (some ⟨x, 0, none⟩)] w fun e w' => e = .returned (.int .i64 (s.ids.length : Int)) ∧ w' = w) := len_any x F s B w h.2 hf
  clear h hf
  go_enter Tryz.func30, Tryz.ntmps30
  go_wp2_with (go_at_call 63; refine HC.out.mono ?_; rintro e w1 ⟨rfl, rfl⟩)
  go_ret
  exact ⟨rfl, rfl⟩
theorem qCheck_any (h : QAt st0 w F y x s) : Calls Tryz.prog 32 #[.pointer (some ⟨y, 0, none⟩)] w fun e w' => e = .returned (.bool true) ∧ w' = w := by
  have hr0 : w.cell? ⟨y, 0, none⟩ = some (.pointer (some ⟨x, 0, none⟩)) := by rw [cell_of_heap h.1]; rfl
  clear h
  go_enter Tryz.func32, Tryz.ntmps32
  go_wp2
  go_ret
  exact ⟨rfl, rfl⟩
end
end Go.Proofs.Qxb6500357aGreat
