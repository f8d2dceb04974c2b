/- Plain facts of the scan: runs, digits. -/
import Derived.Test.YtaijdpckkobofaaDoorLexPlain
namespace Go.Proofs.YtaijdpckkobofaaDoor

theorem ba_ext {a b : ByteArray} (h : a.data.toList = b.data.toList) : a = b := by
  cases a; cases b; exact congrArg ByteArray.mk (Array.ext' h)

theorem runOf_all (p : Nat → Bool) (s : ByteArray) (i : Nat) : ∀ k, i ≤ k → k < runOf p s i → p (byteAt s k) = true := by
  fun_induction runOf p s i with
  | case1 i h hp ih =>
    intro k h1 h2
    rcases Nat.eq_or_lt_of_le h1 with rfl | h3
    · exact hp
    · exact ih k h3 h2
  | case2 i h hp => intro k h1 h2; omega
  | case3 i h => intro k h1 h2; omega
theorem byteAt_extract {s : ByteArray} {i j k : Nat} (hk : i + k < j) : byteAt (s.extract i j) k = byteAt s (i + k) := by
  unfold byteAt
  rw [Lib.extract_data, List.getElem?_take, if_pos (by omega), List.getElem?_drop]
theorem mem_byteAt {t : ByteArray} {c : UInt8} (h : c ∈ t.data.toList) : ∃ k, k < t.size ∧ byteAt t k = c.toNat := by
  obtain ⟨k, hk, e⟩ := List.getElem_of_mem h
  refine ⟨k, by rw [Lib.size_eq]; exact hk, ?_⟩
  unfold byteAt
  rw [List.getElem?_eq_getElem hk, e]
  rfl
theorem extract_run {p : Nat → Bool} {s : ByteArray} {i : Nat} (hi : i ≤ s.size) : ∀ c ∈ (s.extract i (runOf p s i)).data.toList, p c.toNat = true := by
  intro c hc
  obtain ⟨k, hk, e⟩ := mem_byteAt hc
  rw [extract_size (runOf_le p s i hi)] at hk
  rw [byteAt_extract (by omega)] at e
  rw [← e]
  exact runOf_all p s i _ (by omega) (by omega)
theorem decFrom_digits : ∀ (l : List UInt8) (acc : Nat), (∀ c ∈ l, isDigit c.toNat = true) → ∃ m, Lib.decFrom acc l = some m
  | [], acc, _ => ⟨acc, rfl⟩
  | c :: l, acc, h => by
    have hc := h c (by simp)
    simp only [isDigit, Bool.and_eq_true, decide_eq_true_eq] at hc
    have hd : Lib.digitVal c = some (c.toNat - 48) := by unfold Lib.digitVal; rw [if_pos hc]
    obtain ⟨m, hm⟩ := decFrom_digits l (acc * 10 + (c.toNat - 48)) fun x hx => h x (by simp [hx])
    exact ⟨m, by rw [Lib.decFrom, hd]; exact hm⟩
theorem atoi_digits {t : ByteArray} (hne : 0 < t.size) (h : ∀ c ∈ t.data.toList, isDigit c.toNat = true) : Lib.atoi t.data.toList = some ((numOf t : Nat) : Int) := by
  unfold numOf
  rw [Lib.size_eq] at hne
  generalize t.data.toList = l at *
  cases l with
  | nil => simp at hne
  | cons c l =>
    obtain ⟨m, hm⟩ := decFrom_digits (c :: l) 0 h
    have hc := h c (by simp)
    simp only [isDigit, Bool.and_eq_true, decide_eq_true_eq] at hc
    have hn : Lib.decNat (c :: l) = some m := by unfold Lib.decNat; simpa using hm
    have h1 : (c == 45) = false := by
      rw [beq_eq_false_iff_ne]; rintro rfl; simp at hc
    have h2 : (c == 43) = false := by
      rw [beq_eq_false_iff_ne]; rintro rfl; simp at hc
    unfold Lib.atoi
    simp [h1, h2, hn]
theorem number_digits {s : ByteArray} {i : Nat} (hi : i < s.size) (hd : isDigit (byteAt s i) = true) :
    0 < (s.extract i (runOf isDigit s i)).size ∧ Lib.atoi (s.extract i (runOf isDigit s i)).data.toList = some ((numOf (s.extract i (runOf isDigit s i)) : Nat) : Int) := by
  have h1 := runOf_gt (p := isDigit) hi hd
  have h2 := runOf_le isDigit s i (by omega)
  have h3 : 0 < (s.extract i (runOf isDigit s i)).size := by rw [extract_size h2]; omega
  exact ⟨h3, atoi_digits h3 (extract_run (by omega))⟩
end Go.Proofs.YtaijdpckkobofaaDoor
