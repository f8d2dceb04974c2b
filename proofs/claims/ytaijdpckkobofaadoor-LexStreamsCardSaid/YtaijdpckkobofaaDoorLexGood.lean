/- The plain law of the scan: where the tokens stand, and where a fault lies. -/
import Derived.Test.YtaijdpckkobofaaDoorLexPlainB
import Derived.Test.YtaijdpckkobofaaDoorLexHex
namespace Go.Proofs.YtaijdpckkobofaaDoor

/-- a token of the source that is no End -/
structure TokGood (s : ByteArray) (t : Tok) : Prop where
  at_lt : t.at_ < s.size
  kind_lo : 1 ≤ t.kind
  kind_hi : t.kind ≤ 5
  num : t.num < 1000000000000000000
  quote : t.kind = 4 → byteAt s t.at_ = 34
  text : t.kind ≠ 4 → t.text.size ≤ s.size - t.at_ ∧ s.extract t.at_ (t.at_ + t.text.size) = t.text
  size : t.text.size ≤ s.size

theorem numOf_lt (t : ByteArray) (h : t.size ≤ 18) : numOf t < 1000000000000000000 := by
  unfold numOf
  cases hn : Lib.decNat t.data.toList with
  | none => decide
  | some m => exact Lib.decFrom_lt18 (Lib.decNat_some hn).2 (by rw [← Lib.size_eq]; exact h)

theorem textFrom_len : ∀ (n : Nat) (s : ByteArray) (k : Nat) (acc l : List UInt8) (j : Nat), s.size - k ≤ n → textFrom s k acc = .inr (l, j) → l.length + k < acc.length + j := by
  intro n
  induction n with
  | zero =>
    intro s k acc l j hn h
    rw [textFrom_end (by omega)] at h
    cases h
  | succ n ih =>
    intro s k acc l j hn h
    by_cases hk : k < s.size
    · by_cases h34 : byteAt s k = 34
      · rw [textFrom_quote hk h34] at h
        simp only [Sum.inr.injEq, Prod.mk.injEq] at h
        obtain ⟨rfl, rfl⟩ := h
        omega
      · by_cases h92 : byteAt s k = 92
        · cases he : escOf s k with
          | none => rw [textFrom_noesc hk h92 he] at h; cases h
          | some p =>
            obtain ⟨x, m⟩ := p
            rw [textFrom_esc hk h92 he] at h
            have := escOf_ge he
            have := ih _ _ _ _ _ (by omega) h
            simp at this
            omega
        · by_cases hb : byteAt s k < 32 ∨ 126 < byteAt s k
          · rw [textFrom_bad hk hb] at h; cases h
          · rw [textFrom_plain hk h34 h92 hb] at h
            have := ih _ _ _ _ _ (by omega) h
            simp at this
            omega
    · rw [textFrom_end hk] at h
      cases h

theorem extract_back {s : ByteArray} {i j : Nat} (hj : j ≤ s.size) (hij : i ≤ j) : s.extract i (i + (s.extract i j).size) = s.extract i j := by
  rw [extract_size hj, show i + (j - i) = j by omega]

theorem tokenAt_good {s : ByteArray} {i : Nat} {t : Tok} {j : Nat} (hi : i < s.size) (h : tokenAt s i = .inr (t, j)) : TokGood s t := by
  unfold tokenAt at h
  split at h
  · rename_i hl
    unfold nameAt at h
    split at h
    · cases h
    · simp only [Sum.inr.injEq, Prod.mk.injEq] at h
      obtain ⟨rfl, rfl⟩ := h
      have h1 := runOf_ge isName s i
      have h2 := runOf_le isName s i (by omega)
      have h3 := extract_size (i := i) h2
      refine ⟨hi, ?_, ?_, by dsimp only; decide, ?_, fun _ => ⟨?_, extract_back h2 h1⟩, ?_⟩
      · show 1 ≤ (if _ then _ else _); split <;> decide
      · show (if _ then _ else _) ≤ 5; split <;> decide
      · intro h4; have h4' : (if isWord (s.extract i (runOf isName s i)) = true then 2 else 1) = 4 := h4; split at h4' <;> cases h4'
      · show (s.extract i (runOf isName s i)).size ≤ _; show _ ≤ s.size - i; omega
      · show (s.extract i (runOf isName s i)).size ≤ _; omega
  · split at h
    · rename_i hd
      unfold numberAt at h
      split at h
      · cases h
      · rename_i hbad
        split at h
        · cases h
        · simp only [Sum.inr.injEq, Prod.mk.injEq] at h
          obtain ⟨rfl, rfl⟩ := h
          have h1 := runOf_ge isDigit s i
          have h2 := runOf_le isDigit s i (by omega)
          have h3 := extract_size (i := i) h2
          refine ⟨hi, by dsimp only; decide, by dsimp only; decide, numOf_lt _ (by omega), (fun h4 => by cases h4), fun _ => ⟨?_, extract_back h2 h1⟩, ?_⟩
          · show (s.extract i (runOf isDigit s i)).size ≤ s.size - i; omega
          · show (s.extract i (runOf isDigit s i)).size ≤ _; omega
    · split at h
      · rename_i h34
        unfold textAt at h
        split at h
        · cases h
        · rename_i l j' ht
          simp only [Sum.inr.injEq, Prod.mk.injEq] at h
          obtain ⟨rfl, rfl⟩ := h
          have h5 := textFrom_gt _ _ _ _ _ _ (Nat.le_refl _) ht
          have h6 := textFrom_len _ _ _ _ _ _ (Nat.le_refl _) ht
          refine ⟨hi, by dsimp only; decide, by dsimp only; decide, by dsimp only; decide, fun _ => h34, fun h4 => absurd rfl h4, ?_⟩
          show l.toArray.size ≤ s.size
          simp at h6 ⊢
          omega
      · split at h
        · simp only [Sum.inr.injEq, Prod.mk.injEq] at h
          obtain ⟨rfl, rfl⟩ := h
          refine ⟨hi, by dsimp only; decide, by dsimp only; decide, by dsimp only; decide, (fun h4 => by cases h4), fun _ => ⟨?_, ?_⟩, ?_⟩
          · show 1 ≤ s.size - i; omega
          · show s.extract i (i + 1) = _
            apply ba_ext
            rw [Lib.extract_data, show i + 1 - i = 1 by omega]
            have hlt : i < s.data.toList.length := by rw [← Lib.size_eq]; exact hi
            rw [List.drop_eq_getElem_cons hlt]
            simp only [byteAt, List.getElem?_eq_getElem hlt, Option.getD_some, List.take_succ_cons, List.take_zero, UInt8.ofNat_toNat]
          · show 1 ≤ s.size; omega
        · cases h

theorem tokenAt_fault {s : ByteArray} {i a : Nat} (hi : i < s.size) (h : tokenAt s i = .inl a) : a ≤ s.size := by
  unfold tokenAt at h
  split at h
  · unfold nameAt at h
    split at h
    · simp only [Sum.inl.injEq] at h; omega
    · cases h
  · split at h
    · unfold numberAt at h
      split at h
      · simp only [Sum.inl.injEq] at h; omega
      · split at h
        · rename_i h2
          simp only [Sum.inl.injEq] at h; omega
        · cases h
    · split at h
      · unfold textAt at h
        split at h
        · rename_i a' ht
          simp only [Sum.inl.injEq] at h
          have := textFrom_fault _ _ _ _ _ (Nat.le_refl _) (by omega) ht
          omega
        · cases h
      · split at h
        · cases h
        · simp only [Sum.inl.injEq] at h; omega

/-- tokens of a source, in order, all ahead of a place -/
structure Toks (s : ByteArray) (i : Nat) (l : List Tok) : Prop where
  good : ∀ t ∈ l, TokGood s t ∧ t.at_ < i
  ord : ∀ k t t', l[k]? = some t → l[k + 1]? = some t' → t.at_ < t'.at_
  len : l.length ≤ i

theorem Toks.nil (s : ByteArray) : Toks s 0 [] := ⟨(fun _ h => by cases h), (fun _ _ _ h => by simp at h), by simp⟩
theorem Toks.snoc {s : ByteArray} {i i' j : Nat} {l : List Tok} {t : Tok} (h : Toks s i l) (hi : i ≤ i') (hg : TokGood s t) (ht : t.at_ = i') (hj : i' < j) : Toks s j (l ++ [t]) := by
  refine ⟨?_, ?_, ?_⟩
  · intro x hx
    rcases List.mem_append.1 hx with hx | hx
    · have := h.good x hx; exact ⟨this.1, by omega⟩
    · simp at hx; subst hx; exact ⟨hg, by omega⟩
  · intro k a b ha hb
    rcases Nat.lt_or_ge (k + 1) l.length with hk | hk
    · rw [List.getElem?_append_left (by omega)] at ha
      rw [List.getElem?_append_left hk] at hb
      exact h.ord k a b ha hb
    · have hb' := (List.getElem?_eq_some_iff.1 hb).1
      simp at hb'
      have hk1 : k + 1 = l.length := by omega
      rw [List.getElem?_append_right (by omega), hk1] at hb
      simp at hb
      subst hb
      rw [List.getElem?_append_left (by omega)] at ha
      have := (h.good a (List.mem_of_getElem? ha)).2
      omega
  · have := h.len; simp; omega

theorem scanFrom_good : ∀ (n : Nat) (s : ByteArray) (i : Nat) (l L : List Tok), s.size - i ≤ n → i ≤ s.size → Toks s i l → scanFrom s i l = .inr L → ∃ l0, L = l0 ++ [⟨6, ⟨#[]⟩, 0, s.size⟩] ∧ Toks s s.size l0 := by
  intro n
  induction n with
  | zero =>
    intro s i l L hn hi ht h
    have h1 := skipOf_ge s i
    have h2 := skipOf_le s i hi
    rw [scanFrom_end (by omega)] at h
    simp only [Sum.inr.injEq] at h
    subst h
    obtain rfl : i = s.size := by omega
    exact ⟨l, by rw [show skipOf s s.size = s.size by omega], ht⟩
  | succ n ih =>
    intro s i l L hn hi ht h
    have h1 := skipOf_ge s i
    have h2 := skipOf_le s i hi
    by_cases hlt : skipOf s i < s.size
    · cases htk : tokenAt s (skipOf s i) with
      | inl a => rw [scanFrom_fault hlt htk] at h; cases h
      | inr p =>
        obtain ⟨t, j⟩ := p
        rw [scanFrom_step hlt htk] at h
        obtain ⟨hj1, hj2, hta⟩ := tokenAt_gt hlt htk
        exact ih s j (l ++ [t]) L (by omega) hj2 (ht.snoc h1 (tokenAt_good hlt htk) hta hj1) h
    · rw [scanFrom_end hlt] at h
      simp only [Sum.inr.injEq] at h
      subst h
      have e : skipOf s i = s.size := by omega
      refine ⟨l, by rw [e], ⟨fun t h => ⟨(ht.good t h).1, by have := (ht.good t h).2; omega⟩, ht.ord, by have := ht.len; omega⟩⟩
theorem scanFrom_faults : ∀ (n : Nat) (s : ByteArray) (i : Nat) (l : List Tok) (a : Nat), s.size - i ≤ n → i ≤ s.size → scanFrom s i l = .inl a → a ≤ s.size := by
  intro n
  induction n with
  | zero =>
    intro s i l a hn hi h
    have h1 := skipOf_ge s i
    rw [scanFrom_end (by omega)] at h
    cases h
  | succ n ih =>
    intro s i l a hn hi h
    have h1 := skipOf_ge s i
    by_cases hlt : skipOf s i < s.size
    · cases htk : tokenAt s (skipOf s i) with
      | inl b =>
        rw [scanFrom_fault hlt htk] at h
        simp only [Sum.inl.injEq] at h
        subst h
        exact tokenAt_fault hlt htk
      | inr p =>
        obtain ⟨t, j⟩ := p
        rw [scanFrom_step hlt htk] at h
        obtain ⟨hj1, hj2, _⟩ := tokenAt_gt hlt htk
        exact ih s j (l ++ [t]) a (by omega) hj2 h
    · rw [scanFrom_end hlt] at h
      cases h

def src0 : ByteArray := ⟨#[115, 101, 110, 100, 32, 104, 105, 59]⟩
def toks0 : List Tok := [⟨2, ⟨#[115, 101, 110, 100]⟩, 0, 0⟩, ⟨1, ⟨#[104, 105]⟩, 0, 5⟩, ⟨5, ⟨#[59]⟩, 0, 7⟩, ⟨6, ⟨#[]⟩, 0, 8⟩]
theorem run_a : runOf isName src0 0 = 4 := by
  rw [runOf_step (by decide) (by decide), runOf_step (by decide) (by decide), runOf_step (by decide) (by decide), runOf_step (by decide) (by decide), runOf_stop (by decide) (by decide)]
theorem run_b : runOf isName src0 5 = 7 := by
  rw [runOf_step (by decide) (by decide), runOf_step (by decide) (by decide), runOf_stop (by decide) (by decide)]
theorem scan0 : scanFrom src0 0 [] = .inr toks0 := by
  have s0 : skipOf src0 0 = 0 := skipOf_stop (by decide) (by decide) (by decide)
  have s4 : skipOf src0 4 = 5 := by rw [skipOf_blank (by decide) (by decide)]; exact skipOf_stop (by decide) (by decide) (by decide)
  have s7 : skipOf src0 7 = 7 := skipOf_stop (by decide) (by decide) (by decide)
  have s8 : skipOf src0 8 = 8 := skipOf_end (by decide)
  have e4 : src0.extract 0 4 = ⟨#[115, 101, 110, 100]⟩ := ba_ext (by decide)
  have e7 : src0.extract 5 7 = ⟨#[104, 105]⟩ := ba_ext (by decide)
  have t0 : tokenAt src0 0 = .inr (⟨2, ⟨#[115, 101, 110, 100]⟩, 0, 0⟩, 4) := by
    unfold tokenAt nameAt
    rw [if_pos (by decide), run_a, e4, if_neg (by decide), if_pos (by decide +kernel)]
  have t5 : tokenAt src0 5 = .inr (⟨1, ⟨#[104, 105]⟩, 0, 5⟩, 7) := by
    unfold tokenAt nameAt
    rw [if_pos (by decide), run_b, e7, if_neg (by decide), if_neg (by decide +kernel)]
  have t7 : tokenAt src0 7 = .inr (⟨5, ⟨#[59]⟩, 0, 7⟩, 8) := by
    unfold tokenAt
    rw [if_neg (by decide), if_neg (by decide), if_neg (by decide), if_pos (by decide)]
    rfl
  rw [scanFrom_step (by rw [s0]; decide) (by rw [s0]; exact t0), scanFrom_step (by rw [s4]; decide) (by rw [s4]; exact t5), scanFrom_step (by rw [s7]; decide) (by rw [s7]; exact t7), scanFrom_end (by rw [s8]; decide), s8]
  rfl
end Go.Proofs.YtaijdpckkobofaaDoor
