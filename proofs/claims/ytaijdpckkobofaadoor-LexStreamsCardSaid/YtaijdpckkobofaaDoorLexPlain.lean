/- The plain scan: what each of the scanner's methods comes to. -/
import Derived.Test.YtaijdpckkobofaaDoorLexDef
import Derived.Lib.Atoi
import Derived.Lib.Strings
import Derived.Lib.IndexMore
namespace Go.Proofs.YtaijdpckkobofaaDoor
set_option linter.unusedVariables false

/-- a fault's place, or a token and the place behind it -/
abbrev Res := Nat ⊕ (Tok × Nat)

def isWord (t : ByteArray) : Bool := Lib.contains wordsText (32 :: (t.data.toList ++ [32]))
def nameAt (s : ByteArray) (i : Nat) : Res :=
  if 16 < (s.extract i (runOf isName s i)).size then .inl i
  else .inr (⟨if isWord (s.extract i (runOf isName s i)) = true then 2 else 1, s.extract i (runOf isName s i), 0, i⟩, runOf isName s i)

def numOf (t : ByteArray) : Nat := (Lib.decNat t.data.toList).getD 0
def numberAt (s : ByteArray) (i : Nat) : Res :=
  if 9 < (s.extract i (runOf isDigit s i)).size ∨ (1 < (s.extract i (runOf isDigit s i)).size ∧ byteAt (s.extract i (runOf isDigit s i)) 0 = 48) then .inl i
  else if runOf isDigit s i < s.size ∧ isLetter (byteAt s (runOf isDigit s i)) = true then .inl (runOf isDigit s i)
  else .inr (⟨3, s.extract i (runOf isDigit s i), numOf (s.extract i (runOf isDigit s i)), i⟩, runOf isDigit s i)

/-- a small digit's number -/
def hexOf (c : Nat) : Option Nat := if 48 ≤ c ∧ c ≤ 57 then some (c - 48) else if 97 ≤ c ∧ c ≤ 102 then some (c - 87) else none
theorem hexOf_lt {c a : Nat} (h : hexOf c = some a) : a < 16 := by
  unfold hexOf at h
  split at h
  · injection h; omega
  · split at h
    · injection h; omega
    · cases h

/-- what is meant from a backslash on, and how long that is -/
def escOf (s : ByteArray) (k : Nat) : Option (Nat × Nat) :=
  if k + 1 < s.size then
    if byteAt s (k + 1) = 34 ∨ byteAt s (k + 1) = 92 then some (byteAt s (k + 1), 2)
    else if byteAt s (k + 1) = 110 then some (10, 2)
    else if byteAt s (k + 1) = 120 ∧ k + 3 < s.size then
      (hexOf (byteAt s (k + 2))).bind fun a => (hexOf (byteAt s (k + 3))).map fun b => (16 * a + b, 4)
    else none
  else none

theorem escOf_ge {s : ByteArray} {k x n : Nat} (h : escOf s k = some (x, n)) : 2 ≤ n ∧ n ≤ 4 ∧ k + n ≤ s.size ∧ x < 256 := by
  unfold escOf at h
  split at h
  · split at h
    · simp only [Option.some.injEq, Prod.mk.injEq] at h
      omega
    · split at h
      · simp only [Option.some.injEq, Prod.mk.injEq] at h
        omega
      · split at h
        · obtain ⟨a, ha, h⟩ := Option.bind_eq_some_iff.1 h
          obtain ⟨b, hb, h⟩ := Option.map_eq_some_iff.1 h
          have := hexOf_lt ha
          have := hexOf_lt hb
          simp only [Prod.mk.injEq] at h
          omega
        · cases h
  · cases h

/-- a text's bytes from a place on, and the place behind its end; or a fault's place -/
def textFrom (s : ByteArray) (k : Nat) (acc : List UInt8) : Nat ⊕ (List UInt8 × Nat) :=
  if h : k < s.size then
    if byteAt s k = 34 then .inr (acc, k + 1)
    else if byteAt s k = 92 then
      match h2 : escOf s k with
      | none => .inl k
      | some (x, n) =>
        have := (escOf_ge h2).1
        textFrom s (k + n) (acc ++ [UInt8.ofNat x])
    else if byteAt s k < 32 ∨ 126 < byteAt s k then .inl k
    else textFrom s (k + 1) (acc ++ [UInt8.ofNat (byteAt s k)])
  else .inl s.size
  termination_by s.size - k

theorem textFrom_end {s : ByteArray} {k : Nat} {acc : List UInt8} (h : ¬ k < s.size) : textFrom s k acc = .inl s.size := by rw [textFrom, dif_neg h]
theorem textFrom_quote {s : ByteArray} {k : Nat} {acc : List UInt8} (h : k < s.size) (hc : byteAt s k = 34) : textFrom s k acc = .inr (acc, k + 1) := by rw [textFrom, dif_pos h, if_pos hc]
theorem textFrom_esc {s : ByteArray} {k x n : Nat} {acc : List UInt8} (h : k < s.size) (hc : byteAt s k = 92) (he : escOf s k = some (x, n)) : textFrom s k acc = textFrom s (k + n) (acc ++ [UInt8.ofNat x]) := by
  rw [textFrom, dif_pos h, if_neg (by omega), if_pos hc]
  split
  · rename_i h2; rw [he] at h2; cases h2
  · rename_i h2; rw [he] at h2; simp only [Option.some.injEq, Prod.mk.injEq] at h2; obtain ⟨rfl, rfl⟩ := h2; rfl
theorem textFrom_noesc {s : ByteArray} {k : Nat} {acc : List UInt8} (h : k < s.size) (hc : byteAt s k = 92) (he : escOf s k = none) : textFrom s k acc = .inl k := by
  rw [textFrom, dif_pos h, if_neg (by omega), if_pos hc]
  split
  · rfl
  · rename_i h2; rw [he] at h2; cases h2
theorem textFrom_bad {s : ByteArray} {k : Nat} {acc : List UInt8} (h : k < s.size) (hc : byteAt s k < 32 ∨ 126 < byteAt s k) : textFrom s k acc = .inl k := by
  rw [textFrom, dif_pos h, if_neg (by omega), if_neg (by omega), if_pos hc]
theorem textFrom_plain {s : ByteArray} {k : Nat} {acc : List UInt8} (h : k < s.size) (h1 : byteAt s k ≠ 34) (h2 : byteAt s k ≠ 92) (h3 : ¬ (byteAt s k < 32 ∨ 126 < byteAt s k)) : textFrom s k acc = textFrom s (k + 1) (acc ++ [UInt8.ofNat (byteAt s k)]) := by
  rw [textFrom, dif_pos h, if_neg h1, if_neg h2, if_neg h3]

def textAt (s : ByteArray) (i : Nat) : Res :=
  match textFrom s (i + 1) [] with
  | .inl a => .inl a
  | .inr (l, j) => .inr (⟨4, ⟨l.toArray⟩, 0, i⟩, j)

def markBytes : List UInt8 := [59, 44, 123, 125, 40, 41, 61, 62, 64, 33, 43, 45, 42]
def isMark (c : Nat) : Bool := decide (0 ≤ Lib.indexByte markBytes (UInt8.ofNat c))

def tokenAt (s : ByteArray) (i : Nat) : Res :=
  if isLetter (byteAt s i) = true then nameAt s i
  else if isDigit (byteAt s i) = true then numberAt s i
  else if byteAt s i = 34 then textAt s i
  else if isMark (byteAt s i) = true then .inr (⟨5, ⟨#[UInt8.ofNat (byteAt s i)]⟩, 0, i⟩, i + 1)
  else .inl i

/-- the tokens behind those that are there, from a place on; or a fault's place -/
def scanFrom (s : ByteArray) (i : Nat) (l : List Tok) : Nat ⊕ List Tok :=
  if h : skipOf s i < s.size then
    match tokenAt s (skipOf s i) with
    | .inl a => .inl a
    | .inr (t, j) => if hj : skipOf s i < j then (have := skipOf_ge s i; scanFrom s j (l ++ [t])) else .inl 0
  else .inr (l ++ [⟨6, ⟨#[]⟩, 0, skipOf s i⟩])
  termination_by s.size - i

theorem textFrom_gt : ∀ (n : Nat) (s : ByteArray) (k : Nat) (acc l : List UInt8) (j : Nat), s.size - k ≤ n → textFrom s k acc = .inr (l, j) → k < j ∧ j ≤ s.size := by
  intro n
  induction n with
  | zero =>
    intro s k acc l j hn h
    rw [textFrom_end (by omega)] at h
    cases h
  | succ n ih =>
    intro s k acc l j hn h
    by_cases hk : k < s.size
    · by_cases h34 : byteAt s k = 34
      · rw [textFrom_quote hk h34] at h
        simp only [Sum.inr.injEq, Prod.mk.injEq] at h
        omega
      · by_cases h92 : byteAt s k = 92
        · cases he : escOf s k with
          | none => rw [textFrom_noesc hk h92 he] at h; cases h
          | some p =>
            obtain ⟨x, m⟩ := p
            rw [textFrom_esc hk h92 he] at h
            have := escOf_ge he
            have := ih _ _ _ _ _ (by omega) h
            omega
        · by_cases hb : byteAt s k < 32 ∨ 126 < byteAt s k
          · rw [textFrom_bad hk hb] at h; cases h
          · rw [textFrom_plain hk h34 h92 hb] at h
            have := ih _ _ _ _ _ (by omega) h
            omega
    · rw [textFrom_end hk] at h
      cases h
theorem textFrom_fault : ∀ (n : Nat) (s : ByteArray) (k : Nat) (acc : List UInt8) (a : Nat), s.size - k ≤ n → k ≤ s.size → textFrom s k acc = .inl a → k ≤ a ∧ a ≤ s.size := by
  intro n
  induction n with
  | zero =>
    intro s k acc a hn hk h
    rw [textFrom_end (by omega)] at h
    simp only [Sum.inl.injEq] at h
    omega
  | succ n ih =>
    intro s k acc a hn hk' h
    by_cases hk : k < s.size
    · by_cases h34 : byteAt s k = 34
      · rw [textFrom_quote hk h34] at h
        cases h
      · by_cases h92 : byteAt s k = 92
        · cases he : escOf s k with
          | none => rw [textFrom_noesc hk h92 he] at h; simp only [Sum.inl.injEq] at h; omega
          | some p =>
            obtain ⟨x, m⟩ := p
            rw [textFrom_esc hk h92 he] at h
            have := escOf_ge he
            have := ih _ _ _ _ (by omega) (by omega) h
            omega
        · by_cases hb : byteAt s k < 32 ∨ 126 < byteAt s k
          · rw [textFrom_bad hk hb] at h; simp only [Sum.inl.injEq] at h; omega
          · rw [textFrom_plain hk h34 h92 hb] at h
            have := ih _ _ _ _ (by omega) (by omega) h
            omega
    · rw [textFrom_end hk] at h
      simp only [Sum.inl.injEq] at h
      omega

theorem extract_size {s : ByteArray} {i j : Nat} (h : j ≤ s.size) : (s.extract i j).size = j - i := by
  rw [ByteArray.size_extract]; omega

theorem tokenAt_gt {s : ByteArray} {i : Nat} {t : Tok} {j : Nat} (hi : i < s.size) (h : tokenAt s i = .inr (t, j)) : i < j ∧ j ≤ s.size ∧ t.at_ = i := by
  unfold tokenAt at h
  split at h
  · rename_i hl
    unfold nameAt at h
    split at h
    · cases h
    · simp only [Sum.inr.injEq, Prod.mk.injEq] at h
      obtain ⟨rfl, rfl⟩ := h
      have h1 := runOf_gt (p := isName) hi (by simp [isName, hl])
      have h2 := runOf_le isName s i (by omega)
      exact ⟨h1, h2, rfl⟩
  · split at h
    · rename_i hd
      unfold numberAt at h
      split at h
      · cases h
      · split at h
        · cases h
        · simp only [Sum.inr.injEq, Prod.mk.injEq] at h
          obtain ⟨rfl, rfl⟩ := h
          have h1 := runOf_gt (p := isDigit) hi hd
          have h2 := runOf_le isDigit s i (by omega)
          exact ⟨h1, h2, rfl⟩
    · split at h
      · unfold textAt at h
        split at h
        · cases h
        · rename_i l j' ht
          simp only [Sum.inr.injEq, Prod.mk.injEq] at h
          obtain ⟨rfl, rfl⟩ := h
          have := textFrom_gt _ _ _ _ _ _ (Nat.le_refl _) ht
          exact ⟨by omega, this.2, rfl⟩
      · split at h
        · simp only [Sum.inr.injEq, Prod.mk.injEq] at h
          obtain ⟨rfl, rfl⟩ := h
          exact ⟨by omega, by omega, rfl⟩
        · cases h

theorem scanFrom_end {s : ByteArray} {i : Nat} {l : List Tok} (h : ¬ skipOf s i < s.size) : scanFrom s i l = .inr (l ++ [⟨6, ⟨#[]⟩, 0, skipOf s i⟩]) := by rw [scanFrom, dif_neg h]
theorem scanFrom_fault {s : ByteArray} {i a : Nat} {l : List Tok} (h : skipOf s i < s.size) (ht : tokenAt s (skipOf s i) = .inl a) : scanFrom s i l = .inl a := by
  rw [scanFrom, dif_pos h, ht]
theorem scanFrom_step {s : ByteArray} {i j : Nat} {t : Tok} {l : List Tok} (h : skipOf s i < s.size) (ht : tokenAt s (skipOf s i) = .inr (t, j)) : scanFrom s i l = scanFrom s j (l ++ [t]) := by
  rw [scanFrom, dif_pos h, ht]
  simp only
  rw [dif_pos (tokenAt_gt h ht).1]
end Go.Proofs.YtaijdpckkobofaaDoor
