import Derived.Test.Qxb6500357aGreatStore2
import Derived.Test.Qxb6500357aGreatState3
import Derived.Test.Qxb6500357aGreatEq
namespace Go.Proofs.Qxb6500357aGreat
open Go.RowKit Go.Tag
set_option linter.unusedVariables false
set_option linter.unusedSimpArgs false
set_option maxRecDepth 100000
attribute [local simp] str_size
attribute [local go_sem] str_size

/-- What Put leaves. -/
def PutPost (w : World) (F : Nat → Prop) (b : Nat) (s : St) (id g : Int) (t : List UInt8) (bd br bg : Nat) (e : Ending) (w' : World) : Prop :=
  e = .returned (.int .i64 (s.putErr id g t)) ∧ (∃ p', StoreAt w' (fun k => F k ∨ Since w w' k) b (s.putR id g t) bd br bg p') ∧ Fr F w w'

theorem _root_.Go.Tag.StoreAt.mono {w : World} {F F' : Nat → Prop} {b : Nat} {s : St} {bd br bg : Nat} {p : Int → Nat} (h : StoreAt w F b s bd br bg p) (hf : ∀ k, F k → F' k) : StoreAt w F' b s bd br bg p :=
  ⟨h.root, h.docs, h.doc, h.inj, h.revs, h.groups, h.ne, hf _ h.own.1, hf _ h.own.2.1, hf _ h.own.2.2.1, hf _ h.own.2.2.2.1, fun i d hd => hf _ (h.own.2.2.2.2 i d hd)⟩

theorem putPost_bad {w : World} {F : Nat → Prop} {b : Nat} {s : St} {id g : Int} {t : List UInt8} {bd br bg : Nat} {p : Int → Nat} (h : StoreAt w F b s bd br bg p) {c : Int} (hc : s.putErr id g t = c) (h0 : c ≠ 0) : PutPost w F b s id g t bd br bg (.returned (.int .i64 c)) w :=
  ⟨by rw [hc], ⟨p, by unfold St.putR; rw [if_neg (by rw [hc]; exact h0)]; exact h.mono fun k hk => .inl hk⟩, Fr.refl _ _⟩

section
variable (b bd br bg : Nat) (p : Int → Nat) (F : Nat → Prop) (s : St) (B : Int) (id g : Int) (t : List UInt8) (w : World)

theorem put_long (h : StoreAt w F b s bd br bg p) (ht : 12 < t.length) : Calls Tryz.prog 81 #[.pointer (some ⟨b, 0, none⟩), .int .i64 id, .int .i64 g, .string (str t)] w (PutPost w F b s id g t bd br bg) := by
  have HP := putPost_bad (id := id) (g := g) (t := t) (c := 1) h (by unfold St.putErr; rw [if_pos ht]) (by decide)
  have HP : Hid _ := HP
  have hd : decide ((12 : Int) < (t.length : Int)) = true := by simp; omega
  go_enter Tryz.func81, Tryz.ntmps81
  go_wp2
  go_ret
  exact HP.out
theorem put_bad_id (h : StoreAt w F b s bd br bg p) (ht : t.length ≤ 12) (hid : ¬ (1 ≤ id ∧ id ≤ 9)) : Calls Tryz.prog 81 #[.pointer (some ⟨b, 0, none⟩), .int .i64 id, .int .i64 g, .string (str t)] w (PutPost w F b s id g t bd br bg) := by
  have HP : Hid _ := putPost_bad (id := id) (g := g) (t := t) (c := 2) h (by unfold St.putErr; rw [if_neg (by omega), if_pos hid]) (by decide)
  have hd : decide ((12 : Int) < (t.length : Int)) = false := by simp; omega
  have hdd : decide (1 ≤ id ∧ id ≤ 9) = false := by simp only [decide_eq_false_iff_not]; exact hid
  clear hid
  go_enter Tryz.func81, Tryz.ntmps81
  go_wp2_with (go_at_call 65; refine (goodId_any _ _).mono ?_; rintro e w' ⟨rfl, rfl⟩)
  go_ret
  exact HP.out
theorem put_bad_group (h : StoreAt w F b s bd br bg p) (ht : t.length ≤ 12) (hid : 1 ≤ id ∧ id ≤ 9) (hg : ¬ (0 ≤ g ∧ g ≤ 2)) : Calls Tryz.prog 81 #[.pointer (some ⟨b, 0, none⟩), .int .i64 id, .int .i64 g, .string (str t)] w (PutPost w F b s id g t bd br bg) := by
  have HP : Hid _ := putPost_bad (id := id) (g := g) (t := t) (c := 3) h (by unfold St.putErr; rw [if_neg (by omega), if_neg (by simp; exact hid), if_pos hg]) (by decide)
  have hd : decide ((12 : Int) < (t.length : Int)) = false := by simp; omega
  have hdd : decide (1 ≤ id ∧ id ≤ 9) = true := by simp; exact hid
  by_cases h0 : g < 0
  · have h1 : decide (g < 0) = true := by simp; exact h0
    clear hid hg h0
    go_enter Tryz.func81, Tryz.ntmps81
    go_wp2_with (go_at_call 65; refine (goodId_any _ _).mono ?_; rintro e w' ⟨rfl, rfl⟩)
    go_ret
    exact HP.out
  · have h1 : decide (g < 0) = false := by simp; omega
    have h2 : decide ((2 : Int) < g) = true := by simp; omega
    clear hid hg h0
    go_enter Tryz.func81, Tryz.ntmps81
    go_wp2_with (go_at_call 65; refine (goodId_any _ _).mono ?_; rintro e w' ⟨rfl, rfl⟩)
    go_ret
    exact HP.out
theorem put_bad_text (h : StoreAt w F b s bd br bg p) (ht : t.length ≤ 12) (hid : 1 ≤ id ∧ id ≤ 9) (hg : 0 ≤ g ∧ g ≤ 2) (hx : textOK t = false) : Calls Tryz.prog 81 #[.pointer (some ⟨b, 0, none⟩), .int .i64 id, .int .i64 g, .string (str t)] w (PutPost w F b s id g t bd br bg) := by
  have HP : Hid _ := putPost_bad (id := id) (g := g) (t := t) (c := 4) h (by unfold St.putErr; rw [if_neg (by omega), if_neg (by simp; exact hid), if_neg (by simp; exact hg), if_pos hx]) (by decide)
  have hd : decide ((12 : Int) < (t.length : Int)) = false := by simp; omega
  have hdd : decide (1 ≤ id ∧ id ≤ 9) = true := by simp; exact hid
  have h1 : decide (g < 0) = false := by simp; omega
  have h2 : decide ((2 : Int) < g) = false := by simp; omega
  have HT : Hid (t.length ≤ 1000) := by show t.length ≤ 1000; omega
  clear hid hg
  go_enter Tryz.func81, Tryz.ntmps81
  go_wp2_with first
    | (go_at_call 65; refine (goodId_any _ _).mono ?_; rintro e w' ⟨rfl, rfl⟩)
    | (go_at_call 100; refine (textOK_any _ _ HT.out).mono ?_; rintro e w' ⟨rfl, rfl⟩)
  go_ret
  exact HP.out

end
end Go.Proofs.Qxb6500357aGreat
