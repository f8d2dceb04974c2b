/- Plain facts on two hex digits. -/
import Derived.Test.YtaijdpckkobofaaDoorLexPlainB
import Derived.Shelf.Strings.CaseAny
import Derived.Laws.Closers25b
namespace Go.Proofs.YtaijdpckkobofaaDoor

/-- a digit's number, small or great letters -/
def hexAny (c : Nat) : Option Nat := if 48 ≤ c ∧ c ≤ 57 then some (c - 48) else if 97 ≤ (c ||| 32) ∧ (c ||| 32) ≤ 102 then some ((c ||| 32) - 87) else none
def hexFrom (acc : Nat) : List UInt8 → Option Nat
  | [] => some acc
  | c :: r => match hexAny c.toNat with
    | some d => hexFrom (acc * 16 + d) r
    | none => none

theorem or32 : ∀ c : Fin 256, bits BinOp.or IntKind.u8 ((c.val : Nat) : Int) 32 = ((c.val ||| 32 : Nat) : Int) ∧ (c.val ||| 32) < 256 := by decide +kernel
theorem or32_any (c : UInt8) : bits BinOp.or IntKind.u8 ((c.toNat : Nat) : Int) 32 = ((c.toNat ||| 32 : Nat) : Int) ∧ (c.toNat ||| 32) < 256 := or32 ⟨c.toNat, c.toNat_lt⟩
theorem or32_us : ((95 : Nat) ||| 32) = 127 := by decide

theorem byte_facts : ∀ c : Fin 256, (128 ≤ c.val → hexAny c.val = none ∧ hexOf c.val = none) ∧
    (c.val < 128 → Lib.lowerB (UInt8.ofNat c.val) = UInt8.ofNat c.val → hexAny c.val = hexOf c.val) ∧
    (c.val < 128 → Lib.lowerB (UInt8.ofNat c.val) ≠ UInt8.ofNat c.val → hexOf c.val = none) := by decide +kernel
theorem byte_any (c : UInt8) : (128 ≤ c.toNat → hexAny c.toNat = none ∧ hexOf c.toNat = none) ∧
    (c.toNat < 128 → Lib.lowerB c = c → hexAny c.toNat = hexOf c.toNat) ∧ (c.toNat < 128 → Lib.lowerB c ≠ c → hexOf c.toNat = none) := by
  have h := byte_facts ⟨c.toNat, c.toNat_lt⟩
  simp only [UInt8.ofNat_toNat] at h
  exact h

theorem hexFrom_two (u v : UInt8) : hexFrom 0 [u, v] = (hexAny u.toNat).bind fun a => (hexAny v.toNat).map fun b => 16 * a + b := by
  simp only [hexFrom]
  cases hexAny u.toNat with
  | none => rfl
  | some a =>
    cases hexAny v.toNat with
    | none => rfl
    | some b => simp; omega

/-- two bytes that are their own small letters: their number is that of small hex digits; of others there is none -/
theorem esc_hex (u v : UInt8) : (if Lib.toLowerD [u, v] = [u, v] then hexFrom 0 [u, v] else none) = (hexOf u.toNat).bind fun a => (hexOf v.toNat).map fun b => 16 * a + b := by
  rw [hexFrom_two]
  by_cases hu : 128 ≤ u.toNat
  · rw [((byte_any u).1 hu).1, ((byte_any u).1 hu).2]
    simp
  · by_cases hv : 128 ≤ v.toNat
    · rw [((byte_any v).1 hv).1, ((byte_any v).1 hv).2]
      cases hexAny u.toNat <;> cases hexOf u.toNat <;> simp
    · have hl : Lib.toLowerD [u, v] = [Lib.lowerB u, Lib.lowerB v] := by
        rw [Lib.toLowerD_ascii]
        · rfl
        · intro b hb
          simp at hb
          rcases hb with rfl | rfl <;> omega
      rw [hl]
      by_cases h1 : Lib.lowerB u = u
      · by_cases h2 : Lib.lowerB v = v
        · rw [if_pos (by rw [h1, h2]), (byte_any u).2.1 (by omega) h1, (byte_any v).2.1 (by omega) h2]
        · rw [if_neg (by intro e; simp at e; exact h2 e.2), (byte_any v).2.2 (by omega) h2]
          cases hexOf u.toNat <;> simp
      · rw [if_neg (by intro e; simp at e; exact h1 e.1), (byte_any u).2.2 (by omega) h1]
        simp

theorem list_two {t : ByteArray} (h : t.size = 2) : ∃ u v : UInt8, t.data.toList = [u, v] := by
  rw [Lib.size_eq] at h
  match t.data.toList, h with
  | [u, v], _ => exact ⟨u, v, rfl⟩
end Go.Proofs.YtaijdpckkobofaaDoor
