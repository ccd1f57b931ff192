/- The model's index: New, Put, Del, DropGroup, Reset, Len. -/
import Derived.Test.Qxb6500357aGreatMDel
import Derived.Test.Qxb6500357aGreatMShow
import Derived.Test.Qxb6500357aGreatMWords
namespace Go.Tag
open Go.RowKit Go.Proofs.Qxb6500357aGreat
set_option linter.unusedVariables false
set_option linter.unusedSimpArgs false
structure MXat (w : World) (F : Nat → Prop) (x b : Nat) (s : St) (ax : Int) : Prop where
  root : w.heap[x]? = some (.cells #[.pointer (some ⟨b, 0, none⟩), .int .i64 ax] 92)
  st : MS w F b s
  ne : ¬ F x
def MX (w : World) (F : Nat → Prop) (x b : Nat) (s : St) : Prop := ∃ ax, MXat w F x b s ax
def FX (F : Nat → Prop) (x : Nat) : Nat → Prop := fun k => F k ∨ k = x
/-- The store's blocks behind a turn. -/
def NewF (F : Nat → Prop) (w w' : World) : Nat → Prop := fun k => (F k ∨ w.heap.size ≤ k) ∧ k < w'.heap.size
section
variable {w w' : World} {F : Nat → Prop} {x b : Nat} {s s' : St} {ax : Int}
theorem MXat.cells (h : MXat w F x b s ax) : w.cell? ⟨x, 0, none⟩ = some (.pointer (some ⟨b, 0, none⟩)) ∧ w.cell? ⟨x, 1, none⟩ = some (.int .i64 ax) ∧ (∀ i, w.frozen? ⟨x, i, none⟩ = false) ∧ x < w.heap.size :=
  ⟨by rw [cell_of_heap h.root]; rfl, by rw [cell_of_heap h.root]; rfl, frozen_of_heap h.root, lt_of_heap h.root⟩
theorem MXat.ofS (h : MXat w F x b s ax) (hM : MS w' F b s) (f : Fr F w w') : MXat w' F x b s ax := ⟨f.heap h.root h.ne, hM, h.ne⟩
theorem MXat.turn (h : MXat w F x b s ax) (hM : MS w' (fun k => (F k ∨ w.heap.size ≤ k) ∧ k < w'.heap.size) b s') (f : Fr F w w') : MXat w' (NewF F w w') x b s' ax :=
  ⟨f.heap h.root h.ne, hM, fun e => by
    rcases e.1 with e | e
    · exact h.ne e
    · have := lt_of_heap h.root; omega⟩
theorem MXat.ask (h : MXat w F x b s ax) (v : Int) : MXat (w.setCell ⟨x, 1, none⟩ (.int .i64 v)) F x b s v := by
  have f : Fr (fun k => k = x) w (w.setCell ⟨x, 1, none⟩ (.int .i64 v)) := (Fr.refl (fun k => k = x) w).setCell (p := ⟨x, 1, none⟩) (.inr rfl) _
  exact ⟨by rw [heap_setCell_same h.root]; rfl, h.st.fr f (fun k hk e => h.ne (e ▸ hk)), h.ne⟩
theorem askX_fr (v : Value) : Fr (FX F x) w (w.setCell ⟨x, 1, none⟩ v) := (Fr.refl (FX F x) w).setCell (p := ⟨x, 1, none⟩) (.inr (.inr rfl)) _
theorem fr_FX (f : Fr F w w') : Fr (FX F x) w w' := f.mono (fun k _ h => .inl h)
theorem MX.fr (h : MX w F x b s) {S : Nat → Prop} (f : Fr S w w') (hs : ∀ k, FX F x k → ¬ S k) : MX w' F x b s := by
  obtain ⟨ax, h⟩ := h
  exact ⟨ax, f.heap h.root (hs x (.inr rfl)), h.st.fr f (fun k hk => hs k (.inl hk)), h.ne⟩
theorem MX.frNo (h : MX w F x b s) (f : Fr No w w') : MX w' F x b s := h.fr f (fun _ _ e => e)
theorem MX.lt (h : MX w F x b s) : ∀ k, FX F x k → k < w.heap.size := by
  obtain ⟨ax, h⟩ := h
  rintro k (hk | rfl)
  · exact h.st.lt k hk
  · exact lt_of_heap h.root
end
end Go.Tag
namespace Go.Proofs.Qxb6500357aGreat
open Go.RowKit Go.Tag
set_option linter.unusedVariables false
set_option linter.unusedSimpArgs false
set_option maxRecDepth 100000
attribute [local simp] str_size
attribute [local go_sem] str_size
def MXAsk (w : World) (F : Nat → Prop) (x b : Nat) (s : St) (v : Value) (e : Ending) (w' : World) : Prop := e = .returned v ∧ MX w' F x b s ∧ Fr (FX F x) w w'
def MXTurn (w : World) (F : Nat → Prop) (x b : Nat) (s' : St) (v : Value) (e : Ending) (w' : World) : Prop := e = .returned v ∧ MX w' (NewF F w w') x b s' ∧ Fr (FX F x) w w'
def MXInts (w : World) (F : Nat → Prop) (x b : Nat) (s : St) (L : List Int) (e : Ending) (w' : World) : Prop := ∃ v, e = .returned v ∧ w'.ownsRow w.heap.size 3 1 v L.length (L.map (Value.int .i64)) ∧ MX w' F x b s ∧ Fr (FX F x) w w' ∧ (L = [] → v = .slice none 0 0)
theorem mx_keep {w : World} {F : Nat → Prop} {x b : Nat} {s : St} (h : MX w F x b s) (v : Value) : MXTurn w F x b s v (.returned v) w := by
  obtain ⟨ax, h⟩ := h
  have hl := h.st.lt
  obtain ⟨D, a, hS⟩ := h.st
  exact ⟨rfl, ⟨ax, h.root, ⟨D, a, hS.weak (fun k hk => ⟨.inl hk, hl k hk⟩) (fun k hk => hk.2)⟩, fun e => by
    rcases e.1 with e | e
    · exact h.ne e
    · have := lt_of_heap h.root; omega⟩, Fr.refl _ _⟩
theorem mxNew_any (w : World) : Calls Tryz.prog 20 #[] w fun e w' => ∃ x b, e = .returned (.pointer (some ⟨x, 0, none⟩)) ∧ MX w' (fun k => k = b) x b St.new ∧ w.heap.size ≤ b ∧ w.heap.size ≤ x ∧ Fr No w w' := by
  go_enter Tryz.func20, Tryz.ntmps20
  go_wp2_with (go_at_call 49; refine (mNew_any w).mono ?_; rintro e w1 ⟨b, rfl, hM, hb, f1⟩)
  go_ret
  have hbl := hM.lt b rfl
  exact ⟨w1.heap.size, b, rfl, ⟨0, heap_alloc_new w1 _, hM.frNo ((Fr.refl No w1).alloc _), by omega⟩, hb, f1.size, f1.alloc _⟩
section
variable (x b : Nat) (F : Nat → Prop) (s : St) (B : Int) (w : World)
theorem mxPut_any (id g : Int) (t : List UInt8) (h : MX w F x b s) (hf : Fine s B) (hB : B < 1000000000000000000) : Calls Tryz.prog 68 #[.pointer (some ⟨x, 0, none⟩), .int .i64 id, .int .i64 g, .string (str t)] w (MXTurn w F x b (s.putR id g t) (.int .i64 (s.putErr id g t))) := by
  by_cases ht : 12 < t.length
  · have hE : s.putErr id g t = 1 := by unfold St.putErr; rw [if_pos ht]
    have HZ : Hid (MXTurn w F x b (s.putR id g t) (.int .i64 (s.putErr id g t)) (.returned (.int .i64 1)) w) := by
      have : s.putR id g t = s := by unfold St.putR; rw [if_neg (by rw [hE]; decide)]
      rw [this, hE]; exact mx_keep h _
    have hd : decide ((12 : Int) < (t.length : Int)) = true := by simp; omega
    clear hE h
    go_enter Tryz.func68, Tryz.ntmps68
    go_wp2
    go_ret
    exact HZ.out
  · have hd : decide ((12 : Int) < (t.length : Int)) = false := by simp; omega
    obtain ⟨ax, h⟩ := h
    obtain ⟨c0, -, -, hxl⟩ := h.cells
    have HC : Hid (Calls Tryz.prog 89 #[.pointer (some ⟨b, 0, none⟩), .int .i64 id, .int .i64 g, .string (str t)] w (MXTurn w F x b (s.putR id g t) (.int .i64 (s.putErr id g t)))) := (mPut_any b F s B w id g t h.st hf hB (by omega)).mono fun e w' ⟨h1, h2, h3⟩ => ⟨h1, ⟨ax, h.turn h2 h3⟩, fr_FX h3⟩
    clear h hf hB
    go_enter Tryz.func68, Tryz.ntmps68
    go_wp2_with (go_at_call 89; refine HC.out.mono ?_; rintro e w1 ⟨rfl, h1, h2⟩)
    go_ret
    exact ⟨rfl, h1, h2⟩
theorem mxDel_any (id : Int) (h : MX w F x b s) (hf : Fine s B) : Calls Tryz.prog 69 #[.pointer (some ⟨x, 0, none⟩), .int .i64 id] w (MXTurn w F x b (s.delR id) (.int .i64 (s.getErr id))) := by
  obtain ⟨ax, h⟩ := h
  obtain ⟨c0, -, -, hxl⟩ := h.cells
  have HC : Hid (Calls Tryz.prog 90 #[.pointer (some ⟨b, 0, none⟩), .int .i64 id] w (MXTurn w F x b (s.delR id) (.int .i64 (s.getErr id)))) := (mDel_any b F s B w id h.st hf).mono fun e w' ⟨h1, h2, h3⟩ => ⟨h1, ⟨ax, h.turn h2 h3⟩, fr_FX h3⟩
  clear h hf
  go_enter Tryz.func69, Tryz.ntmps69
  go_wp2_with (go_at_call 90; refine HC.out.mono ?_; rintro e w1 ⟨rfl, h1, h2⟩)
  go_ret
  exact ⟨rfl, h1, h2⟩
theorem mxDrop_any (g : Int) (h : MX w F x b s) (hl : s.ids.length ≤ 9) : Calls Tryz.prog 70 #[.pointer (some ⟨x, 0, none⟩), .int .i64 g] w (MXTurn w F x b (s.drop g) (.int .i64 (s.cnt g : Int))) := by
  obtain ⟨ax, h⟩ := h
  obtain ⟨c0, -, -, hxl⟩ := h.cells
  have HC : Hid (Calls Tryz.prog 91 #[.pointer (some ⟨b, 0, none⟩), .int .i64 g] w (MXTurn w F x b (s.drop g) (.int .i64 (s.cnt g : Int)))) := (mDrop_any b F s w g h.st hl).mono fun e w' ⟨h1, h2, h3⟩ => ⟨h1, ⟨ax, h.turn h2 h3⟩, fr_FX h3⟩
  clear h
  go_enter Tryz.func70, Tryz.ntmps70
  go_wp2_with (go_at_call 91; refine HC.out.mono ?_; rintro e w1 ⟨rfl, h1, h2⟩)
  go_ret
  exact ⟨rfl, h1, h2⟩
theorem mxReset_any (h : MX w F x b s) : Calls Tryz.prog 77 #[.pointer (some ⟨x, 0, none⟩)] w (MXTurn w F x b s.reset (.int .i64 s.ids.length)) := by
  obtain ⟨ax, h⟩ := h
  obtain ⟨c0, -, -, hxl⟩ := h.cells
  have HC : Hid (Calls Tryz.prog 98 #[.pointer (some ⟨b, 0, none⟩)] w (MXTurn w F x b s.reset (.int .i64 s.ids.length))) := (mReset_any b F s w h.st).mono fun e w' ⟨h1, h2, h3⟩ => ⟨h1, ⟨ax, h.turn h2 h3⟩, fr_FX h3⟩
  clear h
  go_enter Tryz.func77, Tryz.ntmps77
  go_wp2_with (go_at_call 98; refine HC.out.mono ?_; rintro e w1 ⟨rfl, h1, h2⟩)
  go_ret
  exact ⟨rfl, h1, h2⟩
theorem mxLen_any (h : MX w F x b s) : Calls Tryz.prog 76 #[.pointer (some ⟨x, 0, none⟩)] w (MXAsk w F x b s (.int .i64 s.ids.length)) := by
  obtain ⟨ax, h⟩ := h
  obtain ⟨c0, c1, fz, hxl⟩ := h.cells
  have HC : Hid (∀ v, Calls Tryz.prog 97 #[.pointer (some ⟨b, 0, none⟩)] (w.setCell ⟨x, 1, none⟩ (.int .i64 v)) (MXAsk w F x b s (.int .i64 s.ids.length))) := fun v => (mLen_any b F s _ (h.ask v).st).mono fun e w' ⟨h1, h2, h3⟩ => ⟨h1, ⟨v, (h.ask v).ofS h2 h3⟩, (askX_fr _).trans (fr_FX h3)⟩
  clear h
  go_enter Tryz.func76, Tryz.ntmps76
  go_wp2_with (go_at_call 97; refine (HC.out _).mono ?_; rintro e w1 ⟨rfl, h1, h2⟩)
  go_ret
  exact ⟨rfl, h1, h2⟩
end
end Go.Proofs.Qxb6500357aGreat
