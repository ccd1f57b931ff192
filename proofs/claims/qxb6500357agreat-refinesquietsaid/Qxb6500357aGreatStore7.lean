import Derived.Test.Qxb6500357aGreatStore6
namespace Go.Proofs.Qxb6500357aGreat
open Go.RowKit Go.Tag
set_option linter.unusedVariables false

theorem storePut_any (b bd br bg : Nat) (p : Int → Nat) (F : Nat → Prop) (s : St) (B : Int) (id g : Int) (t : List UInt8) (w : World) (h : StoreAt w F b s bd br bg p) (hf : Fine s B) (hB : B < 1000000000000000000) :
    Calls Tryz.prog 81 #[.pointer (some ⟨b, 0, none⟩), .int .i64 id, .int .i64 g, .string (str t)] w (PutPost w F b s id g t bd br bg) := by
  by_cases ht : 12 < t.length
  · exact put_long b bd br bg p F s id g t w h ht
  · by_cases hid : 1 ≤ id ∧ id ≤ 9
    · by_cases hg : 0 ≤ g ∧ g ≤ 2
      · cases hx : textOK t with
        | false => exact put_bad_text b bd br bg p F s id g t w h (by omega) hid hg hx
        | true =>
          cases hd : s.docs id with
          | none =>
            by_cases h6 : s.ids.length = 6
            · exact put_full b bd br bg p F s B id g t w h hf (by omega) hid hg hx hd h6
            · exact put_new b bd br bg p F s B id g t w h hf (by omega) (by omega) hid hg hx hd h6
          | some d =>
            by_cases hdd : d = ⟨g, t⟩
            · exact put_same b bd br bg p F s B id g t w h hf (by omega) (by omega) hid hg hx (by rw [hd, hdd])
            · exact put_changed b bd br bg p F s B id g t w d h hf (by omega) (by omega) hid hg hx hd hdd
      · exact put_bad_group b bd br bg p F s id g t w h (by omega) hid hg
    · exact put_bad_id b bd br bg p F s id g t w h (by omega) hid
end Go.Proofs.Qxb6500357aGreat
