/- The plain functions: what the Go texts compute. -/
namespace Go.Tag

/-- A text's bytes: letters and blanks. -/
def textOK (l : List UInt8) : Bool := l.all fun c => c == 32 || (decide (97 ≤ c.toNat) && decide (c.toNat ≤ 122))

/-- The digit n as a byte. -/
def dg (n : Nat) : UInt8 := UInt8.ofNat (48 + n)
/-- n in decimal, by a purse of d digits. -/
def itoaF : Nat → Nat → List UInt8
  | 0, _ => []
  | d + 1, n => if n < 10 then [dg n] else itoaF d (n / 10) ++ [dg (n % 10)]
def itoa (n : Nat) : List UInt8 := itoaF 20 n

theorem itoaF_len (d n : Nat) : (itoaF d n).length ≤ d := by
  induction d generalizing n with
  | zero => simp [itoaF]
  | succ d ih =>
    simp only [itoaF]
    split
    · simp
    · have := ih (n / 10); simp; omega

theorem itoaF_big (d n : Nat) (h : n < 10 ^ d) : itoaF (d + 1) n = itoaF (d + 2) n := by
  induction d generalizing n with
  | zero => simp at h; subst h; rfl
  | succ d ih =>
    have e := ih (n / 10) (by rw [Nat.div_lt_iff_lt_mul (by omega)]; rw [Nat.pow_succ] at h; exact h)
    show (if n < 10 then [dg n] else itoaF (d + 1) (n / 10) ++ [dg (n % 10)]) = (if n < 10 then [dg n] else itoaF (d + 2) (n / 10) ++ [dg (n % 10)])
    rw [e]

def ints (l : List Int) : List UInt8 := l.flatMap fun n => itoa n.toNat ++ [32]
def strs (l : List (List UInt8)) : List UInt8 := l.flatMap fun s => s ++ [32]
def counts (l : List (Int × Int)) : List UInt8 := l.flatMap fun p => itoa p.1.toNat ++ [58] ++ itoa p.2.toNat ++ [32]

theorem ints_snoc (l : List Int) (n : Int) : ints (l ++ [n]) = ints l ++ itoa n.toNat ++ [32] := by simp [ints]
theorem strs_snoc (l : List (List UInt8)) (n : List UInt8) : strs (l ++ [n]) = strs l ++ n ++ [32] := by simp [strs]
theorem counts_snoc (l : List (Int × Int)) (p : Int × Int) : counts (l ++ [p]) = counts l ++ itoa p.1.toNat ++ [58] ++ itoa p.2.toNat ++ [32] := by simp [counts]
theorem itoa_len (n : Nat) : (itoa n).length ≤ 20 := itoaF_len 20 n
theorem ints_len (l : List Int) : (ints l).length ≤ 21 * l.length := by
  induction l with
  | nil => simp [ints]
  | cons a l ih =>
    have e : ints (a :: l) = itoa a.toNat ++ [32] ++ ints l := by simp [ints]
    have := itoa_len a.toNat
    rw [e]; simp; omega
theorem counts_len (l : List (Int × Int)) : (counts l).length ≤ 42 * l.length := by
  induction l with
  | nil => simp [counts]
  | cons a l ih =>
    have e : counts (a :: l) = itoa a.1.toNat ++ [58] ++ itoa a.2.toNat ++ [32] ++ counts l := by simp [counts]
    have h1 := itoa_len a.1.toNat
    have h2 := itoa_len a.2.toNat
    rw [e]; simp; omega
theorem strs_len0 (l : List (List UInt8)) (h : ∀ n ∈ l, n.length ≤ 1000) : (strs l).length ≤ 1001 * l.length := by
  induction l with
  | nil => simp [strs]
  | cons a l ih =>
    have e : strs (a :: l) = a ++ [32] ++ strs l := by simp [strs]
    have h1 := h a (by simp)
    have h2 := ih (fun n hn => h n (by simp [hn]))
    rw [e]; simp; omega
theorem strs_len (l : List (List UInt8)) (h : ∀ n ∈ l, n.length ≤ 1000) (j : Nat) (hl : l.length ≤ 1000) : (strs (l.take j)).length ≤ 1001000 := by
  have := strs_len0 (l.take j) (fun n hn => h n (List.mem_of_mem_take hn))
  have h2 : (l.take j).length ≤ l.length := by simp; omega
  omega
theorem take_snoc {α : Type} (l : List α) (k : Nat) (h : k < l.length) : l.take (k + 1) = l.take k ++ [l[k]] := List.take_succ_eq_append_getElem h
/-! ### The words of a text -/
def addW (acc : List (List UInt8)) (w : List UInt8) : List (List UInt8) := if w = [] ∨ w ∈ acc then acc else acc ++ [w]
def splitGo : List UInt8 → List UInt8 → List (List UInt8) → List (List UInt8)
  | [], cur, acc => addW acc cur
  | c :: t, cur, acc => if c = 32 then splitGo t [] (addW acc cur) else splitGo t (cur ++ [c]) acc
/-- The words, each once, in the order in which they first stand. -/
def wordsOf (text : List UInt8) : List (List UInt8) := splitGo text [] []
end Go.Tag
