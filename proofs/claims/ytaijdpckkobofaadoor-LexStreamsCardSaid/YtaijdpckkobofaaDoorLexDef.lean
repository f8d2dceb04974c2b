/- The plain scan of a source: what lex.Scan computes, in plain Lean. -/
import Derived.Test.YtaijdpckkobofaaDoorKit
namespace Go.Proofs.YtaijdpckkobofaaDoor
set_option linter.unusedVariables false

def isLetter (c : Nat) : Bool := decide (97 ≤ c) && decide (c ≤ 122)
def isDigit (c : Nat) : Bool := decide (48 ≤ c) && decide (c ≤ 57)
def isName (c : Nat) : Bool := isLetter c || isDigit c
def isLine (c : Nat) : Bool := decide (c ≠ 10)
def isBlank (c : Nat) : Bool := decide (c = 32) || decide (c = 9) || decide (c = 10)

/-- the byte at a place (0: none) -/
def byteAt (s : ByteArray) (i : Nat) : Nat := ((s.data.toList[i]?).getD 0).toNat

/-- the place behind all bytes for which p holds -/
def runOf (p : Nat → Bool) (s : ByteArray) (i : Nat) : Nat :=
  if h : i < s.size then if p (byteAt s i) = true then runOf p s (i + 1) else i else i
  termination_by s.size - i

theorem runOf_ge (p : Nat → Bool) (s : ByteArray) (i : Nat) : i ≤ runOf p s i := by
  fun_induction runOf p s i <;> omega
theorem runOf_le (p : Nat → Bool) (s : ByteArray) (i : Nat) (h : i ≤ s.size) : runOf p s i ≤ s.size := by
  fun_induction runOf p s i <;> omega
theorem runOf_step {p : Nat → Bool} {s : ByteArray} {i : Nat} (h : i < s.size) (hp : p (byteAt s i) = true) : runOf p s i = runOf p s (i + 1) := by
  rw [runOf, dif_pos h, if_pos hp]
theorem runOf_stop {p : Nat → Bool} {s : ByteArray} {i : Nat} (h : i < s.size) (hp : ¬ p (byteAt s i) = true) : runOf p s i = i := by
  rw [runOf, dif_pos h, if_neg hp]
theorem runOf_end {p : Nat → Bool} {s : ByteArray} {i : Nat} (h : ¬ i < s.size) : runOf p s i = i := by
  rw [runOf, dif_neg h]
theorem runOf_gt {p : Nat → Bool} {s : ByteArray} {i : Nat} (h : i < s.size) (hp : p (byteAt s i) = true) : i < runOf p s i := by
  rw [runOf_step h hp]; exact runOf_ge p s (i + 1)

/-- the place behind blanks and comments -/
def skipOf (s : ByteArray) (i : Nat) : Nat :=
  if h : i < s.size then
    if isBlank (byteAt s i) = true then skipOf s (i + 1)
    else if h35 : byteAt s i = 35 then
      have : i < runOf isLine s i := runOf_gt h (by rw [h35]; decide)
      skipOf s (runOf isLine s i)
    else i
  else i
  termination_by s.size - i

theorem skipOf_ge (s : ByteArray) (i : Nat) : i ≤ skipOf s i := by
  fun_induction skipOf s i <;> omega
theorem skipOf_le (s : ByteArray) (i : Nat) (h : i ≤ s.size) : skipOf s i ≤ s.size := by
  fun_induction skipOf s i with
  | case1 i h1 h2 ih => exact ih (by omega)
  | case2 i h1 h2 h3 h4 ih => exact ih (runOf_le _ _ _ (by omega))
  | case3 => omega
  | case4 => omega
theorem skipOf_blank {s : ByteArray} {i : Nat} (h : i < s.size) (hb : isBlank (byteAt s i) = true) : skipOf s i = skipOf s (i + 1) := by
  rw [skipOf, dif_pos h, if_pos hb]
theorem skipOf_line {s : ByteArray} {i : Nat} (h : i < s.size) (h35 : byteAt s i = 35) : skipOf s i = skipOf s (runOf isLine s i) := by
  rw [skipOf, dif_pos h, if_neg (by rw [h35]; decide), dif_pos h35]
theorem skipOf_stop {s : ByteArray} {i : Nat} (h : i < s.size) (hb : ¬ isBlank (byteAt s i) = true) (h35 : ¬ byteAt s i = 35) : skipOf s i = i := by
  rw [skipOf, dif_pos h, if_neg hb, dif_neg h35]
theorem skipOf_end {s : ByteArray} {i : Nat} (h : ¬ i < s.size) : skipOf s i = i := by
  rw [skipOf, dif_neg h]

/-- one token -/
structure Tok where
  kind : Nat
  text : ByteArray
  num : Nat
  at_ : Nat

def Tok.cells (t : Tok) : List Value := [.int .i64 t.kind, .string t.text, .int .i64 t.num, .int .i64 t.at_]
def Tok.val (t : Tok) : Value := .agg #[.int .i64 t.kind, .string t.text, .int .i64 t.num, .int .i64 t.at_]
def toksCells (l : List Tok) : List Value := l.flatMap Tok.cells

theorem toksCells_length (l : List Tok) : (toksCells l).length = l.length * 4 := by
  induction l with
  | nil => rfl
  | cons t l ih => simp [toksCells, Tok.cells] at ih ⊢; omega

/-- bytes of the source from i up to j -/
def cut (s : ByteArray) (i j : Nat) : ByteArray := ⟨(s.data.toList.take j |>.drop i).toArray⟩

def wordsText : List UInt8 := [32, 97, 99, 107, 101, 100, 32, 97, 102, 116, 101, 114, 32, 97, 115, 32, 98, 108, 111, 99, 107, 32, 99, 111, 118, 101, 114, 32, 101, 108, 115, 101, 32, 101, 118, 101, 114, 121, 32, 105, 102, 32, 106, 111, 105, 110, 32, 108, 101, 116, 32, 114, 101, 112, 101, 97, 116, 32, 114, 101, 116, 114, 121, 32, 114, 111, 117, 116, 101, 32, 115, 101, 110, 100, 32, 115, 112, 108, 105, 116, 32, 116, 105, 109, 101, 115, 32, 118, 105, 97, 32, 119, 97, 105, 116, 32, 119, 105, 116, 104, 32]
end Go.Proofs.YtaijdpckkobofaaDoor
