/- The plain quoting of bytes; scanned again it is the same bytes. -/
import Derived.Test.YtaijdpckkobofaaDoorLexGood
namespace Go.Proofs.YtaijdpckkobofaaDoor

def hexd (d : Nat) : UInt8 := UInt8.ofNat (if d < 10 then 48 + d else 87 + d)
def qByte (c : UInt8) : List UInt8 :=
  if c.toNat = 34 ∨ c.toNat = 92 then [92, c] else if c.toNat = 10 then [92, 110] else if c.toNat < 32 ∨ 126 < c.toNat then [92, 120, hexd (c.toNat / 16), hexd (c.toNat % 16)] else [c]
def quoteOf (l : List UInt8) : List UInt8 := 34 :: (l.flatMap qByte ++ [34])

theorem qByte_len (c : UInt8) : (qByte c).length ≤ 4 := by unfold qByte; (repeat' split) <;> simp
theorem flat_len (l : List UInt8) : (l.flatMap qByte).length ≤ 4 * l.length := by
  induction l with
  | nil => simp
  | cons c l ih =>
    have := qByte_len c
    simp only [List.flatMap_cons, List.length_append, List.length_cons]
    omega
theorem quoteOf_len (l : List UInt8) : (quoteOf l).length ≤ 4 * l.length + 2 := by
  have := flat_len l
  simp only [quoteOf, List.length_cons, List.length_append, List.length_nil]
  omega

theorem hexd_hex : ∀ d : Fin 16, hexOf (hexd d.val).toNat = some d.val := by decide
theorem hexd_of {d : Nat} (h : d < 16) : hexOf (hexd d).toNat = some d := hexd_hex ⟨d, h⟩

theorem byteAt_drop {s : ByteArray} {k i : Nat} {r : List UInt8} (h : s.data.toList.drop k = r) : byteAt s (k + i) = ((r[i]?).getD 0).toNat := by
  subst h
  unfold byteAt
  rw [List.getElem?_drop]
theorem size_drop {s : ByteArray} {k : Nat} {r : List UInt8} (h : s.data.toList.drop k = r) (h0 : r ≠ []) : s.size = k + r.length := by
  have h1 := congrArg List.length h
  rw [List.length_drop, ← Lib.size_eq] at h1
  have : 0 < r.length := List.length_pos_iff.2 h0
  omega
theorem drop_more {s : ByteArray} {k : Nat} {a r : List UInt8} (h : s.data.toList.drop k = a ++ r) : s.data.toList.drop (k + a.length) = r := by
  rw [← List.drop_drop, h, List.drop_left]

theorem textFrom_quoted : ∀ (l : List UInt8) (s : ByteArray) (k : Nat) (acc : List UInt8), s.data.toList.drop k = l.flatMap qByte ++ [34] → textFrom s k acc = .inr (acc ++ l, k + (l.flatMap qByte).length + 1) := by
  intro l
  induction l with
  | nil =>
    intro s k acc h
    simp only [List.flatMap_nil, List.nil_append] at h
    have hs := size_drop h (by simp)
    simp at hs
    have h0 := byteAt_drop (i := 0) h
    rw [textFrom_quote (by omega) (by simpa using h0)]
    simp
  | cons c l ih =>
    intro s k acc h
    rw [List.flatMap_cons, List.append_assoc] at h
    have hs := size_drop h (by simp)
    have hd := drop_more h
    have h0 := byteAt_drop (i := 0) h
    have h1 := byteAt_drop (i := 1) h
    have h2 := byteAt_drop (i := 2) h
    have h3 := byteAt_drop (i := 3) h
    have hc8 := c.toNat_lt
    have hfl : (List.flatMap qByte (c :: l)).length = (qByte c).length + (List.flatMap qByte l).length := by rw [List.flatMap_cons, List.length_append]
    rw [Nat.add_zero] at h0
    by_cases c1 : c.toNat = 34 ∨ c.toNat = 92
    · have hq : qByte c = [92, c] := by unfold qByte; rw [if_pos c1]
      rw [hq] at h0 h1 hs hd
      simp at h0 h1 hs
      have he : escOf s k = some (c.toNat, 2) := by
        unfold escOf
        rw [if_pos (by omega), if_pos (by rw [h1]; exact c1), h1]
      rw [textFrom_esc (by omega) h0 he, ih s (k + 2) _ hd, hfl, hq, UInt8.ofNat_toNat]
      simp only [List.append_assoc, List.cons_append, List.nil_append, List.length_cons, List.length_nil, Sum.inr.injEq, Prod.mk.injEq, true_and]
      omega
    · by_cases c2 : c.toNat = 10
      · have hq : qByte c = [92, 110] := by unfold qByte; rw [if_neg c1, if_pos c2]
        rw [hq] at h0 h1 hs hd
        simp at h0 h1 hs
        have he : escOf s k = some (10, 2) := by
          unfold escOf
          rw [if_pos (by omega), if_neg (by omega), if_pos h1]
        have hc : UInt8.ofNat 10 = c := by rw [← c2, UInt8.ofNat_toNat]
        rw [textFrom_esc (by omega) h0 he, ih s (k + 2) _ hd, hc, hfl, hq]
        simp only [List.append_assoc, List.cons_append, List.nil_append, List.length_cons, List.length_nil, Sum.inr.injEq, Prod.mk.injEq, true_and]
        omega
      · by_cases c3 : c.toNat < 32 ∨ 126 < c.toNat
        · have hq : qByte c = [92, 120, hexd (c.toNat / 16), hexd (c.toNat % 16)] := by unfold qByte; rw [if_neg c1, if_neg c2, if_pos c3]
          rw [hq] at h0 h1 h2 h3 hs hd
          simp at h0 h1 h2 h3 hs
          have he : escOf s k = some (c.toNat, 4) := by
            unfold escOf
            rw [if_pos (by omega), if_neg (by omega), if_neg (by omega), if_pos ⟨h1, by omega⟩, h2, h3, hexd_of (by omega), hexd_of (Nat.mod_lt _ (by omega))]
            simp
            omega
          rw [textFrom_esc (by omega) h0 he, ih s (k + 4) _ hd, UInt8.ofNat_toNat, hfl, hq]
          simp only [List.append_assoc, List.cons_append, List.nil_append, List.length_cons, List.length_nil, Sum.inr.injEq, Prod.mk.injEq, true_and]
          omega
        · have hq : qByte c = [c] := by unfold qByte; rw [if_neg c1, if_neg c2, if_neg c3]
          rw [hq] at h0 hs hd
          simp at h0 hs
          rw [textFrom_plain (by omega) (by rw [h0]; omega) (by rw [h0]; omega) (by rw [h0]; exact c3), h0, ih s (k + 1) _ hd, UInt8.ofNat_toNat, hfl, hq]
          simp only [List.append_assoc, List.cons_append, List.nil_append, List.length_cons, List.length_nil, Sum.inr.injEq, Prod.mk.injEq, true_and]
          omega

theorem scan_quoted (l : List UInt8) : scanFrom ⟨(quoteOf l).toArray⟩ 0 [] = .inr [⟨4, ⟨l.toArray⟩, 0, 0⟩, ⟨6, ⟨#[]⟩, 0, (quoteOf l).length⟩] := by
  obtain ⟨s, hs⟩ : ∃ s : ByteArray, s = ⟨(quoteOf l).toArray⟩ := ⟨_, rfl⟩
  have hl : s.data.toList = quoteOf l := by rw [hs]
  rw [← hs]
  have hsz : s.size = (quoteOf l).length := by rw [Lib.size_eq, hl]
  have hpos : 0 < s.size := by rw [hsz]; simp [quoteOf]
  have h0 : byteAt s 0 = 34 := by unfold byteAt; rw [hl]; rfl
  have hsk : skipOf s 0 = 0 := skipOf_stop hpos (by rw [h0]; decide) (by rw [h0]; decide)
  have hd : s.data.toList.drop 1 = l.flatMap qByte ++ [34] := by rw [hl]; rfl
  have ht := textFrom_quoted l s 1 [] hd
  have hend : 1 + (l.flatMap qByte).length + 1 = s.size := by rw [hsz]; simp only [quoteOf, List.length_cons, List.length_append, List.length_nil]; omega
  rw [hend] at ht
  have htk : tokenAt s 0 = .inr (⟨4, ⟨l.toArray⟩, 0, 0⟩, s.size) := by
    unfold tokenAt
    rw [h0, if_neg (by decide), if_neg (by decide), if_pos rfl]
    unfold textAt
    rw [ht]
    rfl
  rw [scanFrom_step (by rw [hsk]; exact hpos) (by rw [hsk]; exact htk), scanFrom_end (by rw [skipOf_end (by omega)]; omega), skipOf_end (by omega), hsz]
  rfl
end Go.Proofs.YtaijdpckkobofaaDoor
