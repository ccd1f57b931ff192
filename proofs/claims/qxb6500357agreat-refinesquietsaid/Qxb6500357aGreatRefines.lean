/- The two laws' own functions. -/
import Derived.Test.Qxb6500357aGreatRef
namespace Go.Proofs.Qxb6500357aGreat
open Go.RowKit Go.Tag
set_option linter.unusedVariables false
set_option linter.unusedSimpArgs false
set_option maxRecDepth 100000
theorem refinesUpTo_any (v : Value) (n : Nat) (os : Nat → Op) (w : World) (hS : ScriptAt w v n os) : Calls Tryz.prog 5 #[v] w fun e w' => e = .returned (.int .i64 (-1)) ∧ Fr No w w' := by
  have HC : Hid (Calls Tryz.prog 7 #[v, .bool false] w (WalkPost w)) := walk_any v false n os w hS
  clear hS
  go_enter Tryz.func5, Tryz.ntmps5
  go_wp2_with (go_at_call 7; refine HC.out.mono ?_; rintro e w1 ⟨m, rfl, f1⟩)
  go_ret
  exact ⟨rfl, f1⟩
theorem refinesQuietUpTo_any (v : Value) (n : Nat) (os : Nat → Op) (w : World) (hS : ScriptAt w v n os) : Calls Tryz.prog 6 #[v] w fun e w' => e = .returned (.int .i64 (-1)) ∧ Fr No w w' := by
  have HC : Hid (Calls Tryz.prog 7 #[v, .bool true] w (WalkPost w)) := walk_any v true n os w hS
  clear hS
  go_enter Tryz.func6, Tryz.ntmps6
  go_wp2_with (go_at_call 7; refine HC.out.mono ?_; rintro e w1 ⟨m, rfl, f1⟩)
  go_ret
  exact ⟨rfl, f1⟩
theorem refines_walk (v : Value) (n : Nat) (os : Nat → Op) (w : World) (hS : ScriptAt w v n os) : Calls Tryz.prog 3 #[v] w fun e w' => e = .returned (.bool true) ∧ Fr No w w' := by
  have HC : Hid (Calls Tryz.prog 5 #[v] w fun e w' => e = .returned (.int .i64 (-1)) ∧ Fr No w w') := refinesUpTo_any v n os w hS
  clear hS
  go_enter Tryz.func3, Tryz.ntmps3
  go_wp2_with (go_at_call 5; refine HC.out.mono ?_; rintro e w1 ⟨rfl, f1⟩)
  go_ret
  exact ⟨rfl, f1⟩
theorem refinesQuiet_walk (v : Value) (n : Nat) (os : Nat → Op) (w : World) (hS : ScriptAt w v n os) : Calls Tryz.prog 4 #[v] w fun e w' => e = .returned (.bool true) ∧ Fr No w w' := by
  have HC : Hid (Calls Tryz.prog 6 #[v] w fun e w' => e = .returned (.int .i64 (-1)) ∧ Fr No w w') := refinesQuietUpTo_any v n os w hS
  clear hS
  go_enter Tryz.func4, Tryz.ntmps4
  go_wp2_with (go_at_call 6; refine HC.out.mono ?_; rintro e w1 ⟨rfl, f1⟩)
  go_ret
  exact ⟨rfl, f1⟩
end Go.Proofs.Qxb6500357aGreat
