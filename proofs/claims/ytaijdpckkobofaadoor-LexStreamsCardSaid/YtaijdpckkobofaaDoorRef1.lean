/- ref21: letter, digit, mark, hex, Reserved. -/
import Derived.Test.YtaijdpckkobofaaDoorLex1
import Derived.Test.YtaijdpckkobofaaDoorLexWords
namespace Go.Proofs.YtaijdpckkobofaaDoor
open Go.RowKit
set_option linter.unusedVariables false

theorem rletter_any (c : Nat) (w : World) : Calls Tryd.prog 73 #[.int .u8 c] w fun e w' => e = .returned (.bool (isLetter c)) ∧ w' = w := by
  go_enter Tryd.func73, Tryd.ntmps73
  go_wp2
  all_goals (go_ret; simp [isLetter]; try (first | omega | (rw [Bool.eq_iff_iff]; simp; omega)))
theorem rdigit_any (c : Nat) (w : World) : Calls Tryd.prog 74 #[.int .u8 c] w fun e w' => e = .returned (.bool (isDigit c)) ∧ w' = w := by
  go_enter Tryd.func74, Tryd.ntmps74
  go_wp2
  all_goals (go_ret; simp [isDigit]; try (first | omega | (rw [Bool.eq_iff_iff]; simp; omega)))

def isMarkN (c : Nat) : Bool := decide (c = 59 ∨ c = 44 ∨ c = 123 ∨ c = 125 ∨ c = 40 ∨ c = 41 ∨ c = 61 ∨ c = 62 ∨ c = 64 ∨ c = 33 ∨ c = 43 ∨ c = 45 ∨ c = 42)
theorem isMark_eq : ∀ c : Fin 256, isMarkN c.val = isMark c.val := by decide +kernel
theorem rmark_any (c : Nat) (w : World) : Calls Tryd.prog 77 #[.int .u8 c] w fun e w' => e = .returned (.bool (isMarkN c)) ∧ w' = w := by
  go_enter Tryd.func77, Tryd.ntmps77
  go_wp2
  all_goals
    go_ret
    refine ⟨ret_bool ?_, rfl⟩
    simp only [beq_iff_eq, beq_eq_false_iff_ne, ne_eq] at *
    unfold isMarkN
    first | (symm; rw [decide_eq_true_iff]; omega) | (symm; rw [decide_eq_false_iff_not]; omega)

def hexZ (c : Nat) : Int := match hexOf c with
  | some d => (d : Int)
  | none => -1
theorem rhex_any (c : Nat) (hc : c < 256) (w : World) : Calls Tryd.prog 119 #[.int .u8 c] w fun e w' => e = .returned (.int .i64 (hexZ c)) ∧ w' = w := by
  by_cases h1 : 48 ≤ c ∧ c ≤ 57
  · have hd : isDigit c = true := by simp [isDigit]; omega
    have HD : Hid (∀ W, Calls Tryd.prog 74 #[.int .u8 c] W fun e w' => e = .returned (.bool true) ∧ w' = W) := fun W => (rdigit_any c W).mono fun e w' ⟨he, hw⟩ => ⟨by rw [he, hd], hw⟩
    have hz : hexZ c = (c : Int) - 48 := by unfold hexZ hexOf; rw [if_pos h1]; simp only; omega
    rw [hz]
    obtain ⟨h2, h3⟩ := h1
    clear hd hz
    go_enter Tryd.func119, Tryd.ntmps119
    go_wp2_with (go_at_call 74; refine (HD.out _).mono ?_; rintro e w1 ⟨rfl, rfl⟩)
    go_ret
    exact ⟨rfl, rfl⟩
  · have hd : isDigit c = false := by rw [Bool.eq_false_iff]; simp [isDigit]; omega
    have HD : Hid (∀ W, Calls Tryd.prog 74 #[.int .u8 c] W fun e w' => e = .returned (.bool false) ∧ w' = W) := fun W => (rdigit_any c W).mono fun e w' ⟨he, hw⟩ => ⟨by rw [he, hd], hw⟩
    by_cases h4 : 97 ≤ c ∧ c ≤ 102
    · have hz : hexZ c = (c : Int) - 97 + 10 := by unfold hexZ hexOf; rw [if_neg h1, if_pos h4]; simp only; omega
      rw [hz]
      obtain ⟨h2, h3⟩ := h4
      clear hd hz h1
      go_enter Tryd.func119, Tryd.ntmps119
      go_wp2_with (go_at_call 74; refine (HD.out _).mono ?_; rintro e w1 ⟨rfl, rfl⟩)
      go_ret
      exact ⟨rfl, rfl⟩
    · have hz : hexZ c = -1 := by unfold hexZ hexOf; rw [if_neg h1, if_neg h4]
      rw [hz]
      have hcase : (c : Int) < 97 ∨ (97 ≤ (c : Int) ∧ 102 < (c : Int)) := by omega
      clear hd hz h1 h4
      rcases hcase with h5 | ⟨h5, h6⟩
      all_goals
        go_enter Tryd.func119, Tryd.ntmps119
        go_wp2_with (go_at_call 74; refine (HD.out _).mono ?_; rintro e w1 ⟨rfl, rfl⟩)
        go_ret
        exact ⟨rfl, rfl⟩

theorem reserved_any (t : ByteArray) (w : World) : Calls Tryd.prog 75 #[.string t] w fun e w' => e = .returned (.bool (decide (t.data.toList ∈ reserved))) ∧ w' = w := by
  have ht : t.toList = t.data.toList := Lib.toList_data t
  obtain ⟨l, hl⟩ : ∃ l, t.toList = l := ⟨_, rfl⟩
  rw [← ht, hl]
  clear ht
  go_enter Tryd.func75, Tryd.ntmps75
  go_wp2
  all_goals
    go_ret
    refine ⟨ret_bool ?_, rfl⟩
    unfold reserved
    simp only [beq_iff_eq, beq_eq_false_iff_ne, ne_eq] at *
    first | (symm; rw [decide_eq_true_iff]; simp_all; done) | (symm; rw [decide_eq_false_iff_not]; simp_all; done)
end Go.Proofs.YtaijdpckkobofaaDoor
