/- Plain facts for ref21.Scan. -/
import Derived.Test.YtaijdpckkobofaaDoorLexGood
import Derived.Test.YtaijdpckkobofaaDoorLexWords
namespace Go.Proofs.YtaijdpckkobofaaDoor
set_option linter.unusedVariables false

theorem scanFrom_skip {s : ByteArray} {i j : Nat} {l : List Tok} (h : skipOf s i = skipOf s j) : scanFrom s i l = scanFrom s j l := by
  by_cases hlt : skipOf s i < s.size
  · cases ht : tokenAt s (skipOf s i) with
    | inl a => rw [scanFrom_fault hlt ht, scanFrom_fault (h ▸ hlt) (h ▸ ht)]
    | inr p =>
      obtain ⟨t, e⟩ := p
      rw [scanFrom_step hlt ht, scanFrom_step (i := j) (h ▸ hlt) (h ▸ ht)]
  · rw [scanFrom_end hlt, scanFrom_end (h ▸ hlt), h]
theorem scan_blank {s : ByteArray} {k : Nat} {l : List Tok} (h : k < s.size) (hb : isBlank (byteAt s k) = true) : scanFrom s k l = scanFrom s (k + 1) l := scanFrom_skip (skipOf_blank h hb)
theorem scan_line {s : ByteArray} {k : Nat} {l : List Tok} (h : k < s.size) (hb : byteAt s k = 35) : scanFrom s k l = scanFrom s (runOf isLine s k) l := scanFrom_skip (skipOf_line h hb)
theorem scan_here {s : ByteArray} {k j : Nat} {t : Tok} {l : List Tok} (h : k < s.size) (hb : ¬ isBlank (byteAt s k) = true) (h35 : ¬ byteAt s k = 35) (ht : tokenAt s k = .inr (t, j)) : scanFrom s k l = scanFrom s j (l ++ [t]) := by
  have hs := skipOf_stop h hb h35
  exact scanFrom_step (by rw [hs]; exact h) (by rw [hs]; exact ht)
theorem scan_bad {s : ByteArray} {k a : Nat} {l : List Tok} (h : k < s.size) (hb : ¬ isBlank (byteAt s k) = true) (h35 : ¬ byteAt s k = 35) (ht : tokenAt s k = .inl a) : scanFrom s k l = .inl a := by
  have hs := skipOf_stop h hb h35
  exact scanFrom_fault (by rw [hs]; exact h) (by rw [hs]; exact ht)
theorem scan_stop {s : ByteArray} {k : Nat} {l : List Tok} (h : ¬ k < s.size) (hk : k ≤ s.size) : scanFrom s k l = .inr (l ++ [⟨6, ⟨#[]⟩, 0, s.size⟩]) := by
  have hs := skipOf_end h
  rw [scanFrom_end (by rw [hs]; exact h), hs, show k = s.size by omega]

theorem extract_get {s : ByteArray} {k e j : Nat} (hj : k ≤ j) (hje : j < e) (he : e ≤ s.size) : ∃ b : UInt8, (s.extract k e).data.toList[j - k]? = some b ∧ b.toNat = byteAt s j := by
  have hl : j < s.data.toList.length := by rw [← Lib.size_eq]; omega
  refine ⟨s.data.toList[j], ?_, ?_⟩
  · rw [Lib.extract_data, List.getElem?_take, if_pos (by omega), List.getElem?_drop, show k + (j - k) = j by omega]
    exact List.getElem?_eq_getElem hl
  · unfold byteAt
    rw [List.getElem?_eq_getElem hl]; rfl
def NumAt (s : ByteArray) (k e j n : Nat) : Prop := Lib.decFrom 0 ((s.extract k e).data.toList.take (min (j - k) 9)) = some n
theorem num_zero (s : ByteArray) (k e : Nat) : NumAt s k e k 0 := by unfold NumAt; rw [Nat.sub_self]; rfl
theorem number_def (s : ByteArray) (k e : Nat) (he : runOf isDigit s k = e) : numberAt s k = if 9 < (s.extract k e).size ∨ (1 < (s.extract k e).size ∧ byteAt (s.extract k e) 0 = 48) then .inl k else if e < s.size ∧ isLetter (byteAt s e) = true then .inl e else .inr (⟨3, s.extract k e, numOf (s.extract k e), k⟩, e) := by subst he; rfl
theorem num_step {s : ByteArray} {k e j n : Nat} (hj : k ≤ j) (hje : j < e) (he : e ≤ s.size) (h9 : j - k < 9) (hd : isDigit (byteAt s j) = true) (h : NumAt s k e j n) :
    NumAt s k e (j + 1) (10 * n + (byteAt s j - 48)) := by
  unfold NumAt at *
  obtain ⟨b, hb, hbn⟩ := extract_get hj hje he
  have hd' : Lib.digitVal b = some (byteAt s j - 48) := by
    simp only [isDigit, Bool.and_eq_true, decide_eq_true_eq] at hd
    unfold Lib.digitVal
    rw [hbn, if_pos hd]
  have := Lib.decFrom_take _ (j - k) 0 n b _ (by rw [← h, Nat.min_eq_left (by omega)]) hb hd'
  rw [show min (j + 1 - k) 9 = j - k + 1 by omega, this]
  congr 1; omega
theorem num_stay {s : ByteArray} {k e j n : Nat} (hj : k ≤ j) (h9 : ¬ j - k < 9) (h : NumAt s k e j n) :
    NumAt s k e (j + 1) n := by
  unfold NumAt at *
  rw [show min (j + 1 - k) 9 = min (j - k) 9 by omega]; exact h
theorem num_small {s : ByteArray} {k e j n : Nat} (h : NumAt s k e j n) : n < 100000000000000000 := by
  unfold NumAt at h
  exact Lib.decFrom_take_lt h (by omega)
theorem num_end {s : ByteArray} {k e n : Nat} (hke : k < e) (he : e ≤ s.size) (h9 : e - k ≤ 9) (h : NumAt s k e e n) : numOf (s.extract k e) = n := by
  unfold NumAt at h
  have hl : (s.extract k e).data.toList.length = e - k := by rw [← Lib.size_eq, extract_size he]
  rw [show min (e - k) 9 = e - k by omega, ← hl, List.take_length] at h
  have hne : ¬ (s.extract k e).data.toList = [] := by
    intro h0; rw [h0] at hl; simp at hl; omega
  unfold numOf Lib.decNat
  rw [if_neg (by simpa using hne), h]; rfl
theorem mark_text {s : ByteArray} {i : Nat} (hi : i < s.size) : s.extract i (i + 1) = ⟨#[UInt8.ofNat (byteAt s i)]⟩ := by
  apply ba_ext
  rw [Lib.extract_data, show i + 1 - i = 1 by omega]
  have hlt : i < s.data.toList.length := by rw [← Lib.size_eq]; exact hi
  rw [List.drop_eq_getElem_cons hlt]
  simp only [byteAt, List.getElem?_eq_getElem hlt, Option.getD_some, List.take_succ_cons, List.take_zero, UInt8.ofNat_toNat]
theorem runOf_idem (p : Nat → Bool) (s : ByteArray) (i : Nat) : runOf p s i < s.size → ¬ p (byteAt s (runOf p s i)) = true := by
  fun_induction runOf p s i with
  | case1 i h hp ih => exact ih
  | case2 i h hp => exact fun _ => hp
  | case3 i h => intro h2; omega
end Go.Proofs.YtaijdpckkobofaaDoor
