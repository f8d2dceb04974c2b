/- The reserved words: a search in one text is membership in a list. -/
import Derived.Test.YtaijdpckkobofaaDoorLexPlainB
import Derived.Lib.IndexMore
namespace Go.Proofs.YtaijdpckkobofaaDoor
set_option linter.unusedVariables false

def reserved : List (List UInt8) := [[97, 99, 107, 101, 100], [97, 102, 116, 101, 114], [97, 115], [98, 108, 111, 99, 107], [99, 111, 118, 101, 114], [101, 108, 115, 101], [101, 118, 101, 114, 121], [105, 102], [106, 111, 105, 110], [108, 101, 116], [114, 101, 112, 101, 97, 116], [114, 101, 116, 114, 121], [114, 111, 117, 116, 101], [115, 101, 110, 100], [115, 112, 108, 105, 116], [116, 105, 109, 101, 115], [118, 105, 97], [119, 97, 105, 116], [119, 105, 116, 104]]
def wt : List (List UInt8) → List UInt8
  | [] => [32]
  | w :: ws => 32 :: (w ++ wt ws)
theorem wordsText_eq : wordsText = wt reserved := by decide

theorem contains_iff (s sub : List UInt8) : Lib.contains s sub = true ↔ ∃ i, i ≤ s.length ∧ sub.isPrefixOf (s.drop i) = true := by
  unfold Lib.contains
  rw [decide_eq_true_iff]
  rcases Lib.index_spec s sub with ⟨h, hn⟩ | ⟨i, h, hi, ho, _⟩
  · rw [h]
    constructor
    · intro h'; omega
    · rintro ⟨i, hi, ho⟩
      have := hn i hi
      unfold Lib.occAt at this
      rw [ho] at this
      cases this
  · rw [h]
    exact ⟨fun _ => ⟨i, hi, ho⟩, fun _ => by omega⟩

theorem contains_cons (c : UInt8) (s sub : List UInt8) (hne : sub ≠ []) : Lib.contains (c :: s) sub = (sub.isPrefixOf (c :: s) || Lib.contains s sub) := by
  rw [Bool.eq_iff_iff, Bool.or_eq_true, contains_iff, contains_iff]
  constructor
  · rintro ⟨i, hi, ho⟩
    cases i with
    | zero => exact Or.inl ho
    | succ i => exact Or.inr ⟨i, by simpa using hi, by simpa using ho⟩
  · rintro (ho | ⟨i, hi, ho⟩)
    · exact ⟨0, Nat.zero_le _, ho⟩
    · exact ⟨i + 1, by simpa using hi, by simpa using ho⟩

theorem contains_skip (t r : List UInt8) : ∀ (w : List UInt8), 32 ∉ w → Lib.contains (w ++ r) (32 :: (t ++ [32])) = Lib.contains r (32 :: (t ++ [32]))
  | [], _ => rfl
  | c :: w, h => by
    simp only [List.mem_cons, not_or] at h
    rw [List.cons_append, contains_cons _ _ _ (by simp), contains_skip t r w h.2]
    have : ((32 : UInt8) == c) = false := by rw [beq_eq_false_iff_ne]; exact h.1
    simp [List.isPrefixOf, this]
theorem prefix_word (r : List UInt8) : ∀ (t w : List UInt8), 32 ∉ t → 32 ∉ w → (t ++ [32]).isPrefixOf (w ++ 32 :: r) = decide (t = w)
  | [], [], _, _ => by simp [List.isPrefixOf]
  | [], c :: w, _, h => by
    simp only [List.mem_cons, not_or] at h
    have : ((32 : UInt8) == c) = false := by rw [beq_eq_false_iff_ne]; exact h.1
    simp [List.isPrefixOf, this]
  | c :: t, [], h, _ => by
    simp only [List.mem_cons, not_or] at h
    have : (c == (32 : UInt8)) = false := by rw [beq_eq_false_iff_ne]; exact fun e => h.1 e.symm
    simp [List.isPrefixOf, this]
  | c :: t, d :: w, h, h' => by
    simp only [List.mem_cons, not_or] at h h'
    have ih := prefix_word r t w h.2 h'.2
    simp only [List.cons_append, List.isPrefixOf, ih]
    by_cases e : c = d
    · subst e; simp
    · simp [e]
theorem wt_head : ∀ (ws : List (List UInt8)), ∃ r, wt ws = 32 :: r
  | [] => ⟨[], rfl⟩
  | w :: ws => ⟨_, rfl⟩
theorem contains_wt (t : List UInt8) (ht : 32 ∉ t) : ∀ (ws : List (List UInt8)), (∀ w ∈ ws, 32 ∉ w) → Lib.contains (wt ws) (32 :: (t ++ [32])) = decide (t ∈ ws)
  | [], _ => by
    have : Lib.contains (wt []) (32 :: (t ++ [32])) = false := by
      rw [Bool.eq_false_iff]
      intro h
      obtain ⟨i, hi, ho⟩ := (contains_iff _ _).1 h
      have h1 := (List.isPrefixOf_iff_prefix.1 ho).length_le
      simp [wt] at h1 hi
      omega
    rw [this]
    simp
  | w :: ws, h => by
    have hw := h w (by simp)
    have ih := contains_wt t ht ws fun x hx => h x (by simp [hx])
    obtain ⟨r, hr⟩ := wt_head ws
    show Lib.contains (32 :: (w ++ wt ws)) _ = _
    rw [contains_cons _ _ _ (by simp), contains_skip t _ w hw, ih]
    have hp : (32 :: (t ++ [32])).isPrefixOf (32 :: (w ++ wt ws)) = decide (t = w) := by
      rw [hr]
      show ((32 : UInt8) == 32 && (t ++ [32]).isPrefixOf (w ++ 32 :: r)) = _
      rw [prefix_word r t w ht hw]
      simp
    rw [hp]
    simp [Bool.decide_or]

/-- a name is a word if it is on the list -/
theorem isWord_eq (t : ByteArray) (ht : 32 ∉ t.data.toList) : isWord t = decide (t.data.toList ∈ reserved) := by
  unfold isWord
  rw [wordsText_eq]
  exact contains_wt _ ht _ (by decide)
theorem name_no_blank {s : ByteArray} {i : Nat} (hi : i ≤ s.size) : 32 ∉ (s.extract i (runOf isName s i)).data.toList := by
  intro h
  have := extract_run (p := isName) hi 32 h
  revert this
  decide
end Go.Proofs.YtaijdpckkobofaaDoor
