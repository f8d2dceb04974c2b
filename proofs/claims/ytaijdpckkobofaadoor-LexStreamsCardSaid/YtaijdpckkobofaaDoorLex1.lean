/- lex: the small tests of a byte, and the scan over bytes. (wip/gen_lex1.py) -/
import Derived.Test.YtaijdpckkobofaaDoorLexDef
namespace Go.Proofs.YtaijdpckkobofaaDoor
open Go.RowKit
set_option linter.unusedVariables false

theorem byteAt_some {s : ByteArray} {i : Nat} (h : i < s.size) : ∃ n : Nat, (s[i]'h).toNat = n ∧ byteAt s i = n ∧ n < 256 := by
  have h' : i < s.data.size := h
  have h2 : byteAt s i = (s[i]'h).toNat := by
    simp only [byteAt, Array.getElem?_toList, Array.getElem?_eq_getElem h', Option.getD_some]; rfl
  exact ⟨_, rfl, h2, UInt8.toNat_lt _⟩

theorem byteAt_lt (s : ByteArray) (i : Nat) : byteAt s i < 256 := UInt8.toNat_lt _

theorem letter_any (c : Nat) (w : World) : Calls Tryd.prog 110 #[.int .u8 c] w fun e w' => e = .returned (.bool (isLetter c)) ∧ w' = w := by
  go_enter Tryd.func110, Tryd.ntmps110
  go_wp2
  all_goals (go_ret; simp [isLetter]; try (first | omega | (rw [Bool.eq_iff_iff]; simp; omega)))

theorem digit_any (c : Nat) (w : World) : Calls Tryd.prog 112 #[.int .u8 c] w fun e w' => e = .returned (.bool (isDigit c)) ∧ w' = w := by
  go_enter Tryd.func112, Tryd.ntmps112
  go_wp2
  all_goals (go_ret; simp [isDigit]; try (first | omega | (rw [Bool.eq_iff_iff]; simp; omega)))

theorem inName_any (c : Nat) (w : World) : Calls Tryd.prog 130 #[.int .u8 c] w fun e w' => e = .returned (.bool (isName c)) ∧ w' = w := by
  go_enter Tryd.func130, Tryd.ntmps130
  go_wp2_with (first | (go_at_call 110; refine (letter_any c _).mono ?_; rintro e w1 ⟨rfl, rfl⟩) | (go_at_call 112; refine (digit_any c _).mono ?_; rintro e w1 ⟨rfl, rfl⟩))
  all_goals (go_ret; simp_all [isName])

theorem isLine_any (c : Nat) (w : World) : Calls Tryd.prog 109 #[.int .u8 c] w fun e w' => e = .returned (.bool (isLine c)) ∧ w' = w := by
  go_enter Tryd.func109, Tryd.ntmps109
  go_wp2
  all_goals (go_ret; simp [isLine]; try (first | omega | (rw [Bool.eq_iff_iff]; simp; omega)))

set_option maxRecDepth 100000 in
set_option maxHeartbeats 1000000 in
theorem while_isName (b : Nat) (s : ByteArray) (i : Nat) (w : World) (c0 : w.cell? ⟨b, 0, none⟩ = some (.string s)) (hi : i ≤ s.size) (hs : s.size < 4611686018427387904) :
    Calls Tryd.prog 108 #[.pointer (some ⟨b, 0, none⟩), .int .i64 i, .func (.func 130) #[] #[]] w fun e w' => e = .returned (.int .i64 (runOf isName s i)) ∧ w' = w := by
  go_enter Tryd.func108, Tryd.ntmps108
  go_wp2_with fail
  go_loopw [1] (fun i' wr => ∃ k : Nat, k ≤ s.size ∧ i' = .int .i64 k ∧ runOf isName s k = runOf isName s i ∧ wr = w) (fun i' _ => s.size - (intOf i').toNat)
  case atStart => exact ⟨i, hi, rfl, rfl, rfl⟩
  case round =>
    obtain ⟨k, hk, rfl, hrun, rfl⟩ := hrel
    have Hrun := Lib.hid hrun
    clear hrun
    by_cases hlt : k < s.size
    · obtain ⟨u, hu, hb, hu8⟩ := byteAt_some hlt
      have Hb := Lib.hid hb
      clear hb
      by_cases hp : isName u = true
      · have HC : Hid (∀ W, Calls Tryd.prog 130 #[.int .u8 u] W fun e w' => e = .returned (.bool true) ∧ w' = W) := fun W => (inName_any u W).mono fun e w' ⟨he, hw⟩ => ⟨by rw [he, hp], hw⟩
        have Hp := Lib.hid hp
        clear hp
        go_wp2_with (go_at_call 130; refine (HC.out _).mono ?_; rintro e w1 ⟨rfl, rfl⟩)
        go_roundw
        case rel => exact ⟨k + 1, by omega, by go_num, by rw [← Hrun.out, runOf_step hlt (by rw [Hb.out]; exact Hp.out)], trivial⟩
        case measure => simp [intOf]; omega
      · have HC : Hid (∀ W, Calls Tryd.prog 130 #[.int .u8 u] W fun e w' => e = .returned (.bool false) ∧ w' = W) := fun W => (inName_any u W).mono fun e w' ⟨he, hw⟩ => ⟨by rw [he, Bool.eq_false_iff.2 hp], hw⟩
        have Hp := Lib.hid hp
        clear hp
        go_wp2_with (go_at_call 130; refine (HC.out _).mono ?_; rintro e w1 ⟨rfl, rfl⟩)
        go_ret
        exact ⟨by rw [← Hrun.out, runOf_stop hlt (by rw [Hb.out]; exact Hp.out)]; rfl, rfl⟩
    · go_wp2_with fail
      go_ret
      exact ⟨by rw [← Hrun.out, runOf_end hlt]; rfl, rfl⟩

set_option maxRecDepth 100000 in
set_option maxHeartbeats 1000000 in
theorem while_isDigit (b : Nat) (s : ByteArray) (i : Nat) (w : World) (c0 : w.cell? ⟨b, 0, none⟩ = some (.string s)) (hi : i ≤ s.size) (hs : s.size < 4611686018427387904) :
    Calls Tryd.prog 108 #[.pointer (some ⟨b, 0, none⟩), .int .i64 i, .func (.func 112) #[] #[]] w fun e w' => e = .returned (.int .i64 (runOf isDigit s i)) ∧ w' = w := by
  go_enter Tryd.func108, Tryd.ntmps108
  go_wp2_with fail
  go_loopw [1] (fun i' wr => ∃ k : Nat, k ≤ s.size ∧ i' = .int .i64 k ∧ runOf isDigit s k = runOf isDigit s i ∧ wr = w) (fun i' _ => s.size - (intOf i').toNat)
  case atStart => exact ⟨i, hi, rfl, rfl, rfl⟩
  case round =>
    obtain ⟨k, hk, rfl, hrun, rfl⟩ := hrel
    have Hrun := Lib.hid hrun
    clear hrun
    by_cases hlt : k < s.size
    · obtain ⟨u, hu, hb, hu8⟩ := byteAt_some hlt
      have Hb := Lib.hid hb
      clear hb
      by_cases hp : isDigit u = true
      · have HC : Hid (∀ W, Calls Tryd.prog 112 #[.int .u8 u] W fun e w' => e = .returned (.bool true) ∧ w' = W) := fun W => (digit_any u W).mono fun e w' ⟨he, hw⟩ => ⟨by rw [he, hp], hw⟩
        have Hp := Lib.hid hp
        clear hp
        go_wp2_with (go_at_call 112; refine (HC.out _).mono ?_; rintro e w1 ⟨rfl, rfl⟩)
        go_roundw
        case rel => exact ⟨k + 1, by omega, by go_num, by rw [← Hrun.out, runOf_step hlt (by rw [Hb.out]; exact Hp.out)], trivial⟩
        case measure => simp [intOf]; omega
      · have HC : Hid (∀ W, Calls Tryd.prog 112 #[.int .u8 u] W fun e w' => e = .returned (.bool false) ∧ w' = W) := fun W => (digit_any u W).mono fun e w' ⟨he, hw⟩ => ⟨by rw [he, Bool.eq_false_iff.2 hp], hw⟩
        have Hp := Lib.hid hp
        clear hp
        go_wp2_with (go_at_call 112; refine (HC.out _).mono ?_; rintro e w1 ⟨rfl, rfl⟩)
        go_ret
        exact ⟨by rw [← Hrun.out, runOf_stop hlt (by rw [Hb.out]; exact Hp.out)]; rfl, rfl⟩
    · go_wp2_with fail
      go_ret
      exact ⟨by rw [← Hrun.out, runOf_end hlt]; rfl, rfl⟩

set_option maxRecDepth 100000 in
set_option maxHeartbeats 1000000 in
theorem while_isLine (b : Nat) (s : ByteArray) (i : Nat) (w : World) (c0 : w.cell? ⟨b, 0, none⟩ = some (.string s)) (hi : i ≤ s.size) (hs : s.size < 4611686018427387904) :
    Calls Tryd.prog 108 #[.pointer (some ⟨b, 0, none⟩), .int .i64 i, .func (.func 109) #[] #[]] w fun e w' => e = .returned (.int .i64 (runOf isLine s i)) ∧ w' = w := by
  go_enter Tryd.func108, Tryd.ntmps108
  go_wp2_with fail
  go_loopw [1] (fun i' wr => ∃ k : Nat, k ≤ s.size ∧ i' = .int .i64 k ∧ runOf isLine s k = runOf isLine s i ∧ wr = w) (fun i' _ => s.size - (intOf i').toNat)
  case atStart => exact ⟨i, hi, rfl, rfl, rfl⟩
  case round =>
    obtain ⟨k, hk, rfl, hrun, rfl⟩ := hrel
    have Hrun := Lib.hid hrun
    clear hrun
    by_cases hlt : k < s.size
    · obtain ⟨u, hu, hb, hu8⟩ := byteAt_some hlt
      have Hb := Lib.hid hb
      clear hb
      by_cases hp : isLine u = true
      · have HC : Hid (∀ W, Calls Tryd.prog 109 #[.int .u8 u] W fun e w' => e = .returned (.bool true) ∧ w' = W) := fun W => (isLine_any u W).mono fun e w' ⟨he, hw⟩ => ⟨by rw [he, hp], hw⟩
        have Hp := Lib.hid hp
        clear hp
        go_wp2_with (go_at_call 109; refine (HC.out _).mono ?_; rintro e w1 ⟨rfl, rfl⟩)
        go_roundw
        case rel => exact ⟨k + 1, by omega, by go_num, by rw [← Hrun.out, runOf_step hlt (by rw [Hb.out]; exact Hp.out)], trivial⟩
        case measure => simp [intOf]; omega
      · have HC : Hid (∀ W, Calls Tryd.prog 109 #[.int .u8 u] W fun e w' => e = .returned (.bool false) ∧ w' = W) := fun W => (isLine_any u W).mono fun e w' ⟨he, hw⟩ => ⟨by rw [he, Bool.eq_false_iff.2 hp], hw⟩
        have Hp := Lib.hid hp
        clear hp
        go_wp2_with (go_at_call 109; refine (HC.out _).mono ?_; rintro e w1 ⟨rfl, rfl⟩)
        go_ret
        exact ⟨by rw [← Hrun.out, runOf_stop hlt (by rw [Hb.out]; exact Hp.out)]; rfl, rfl⟩
    · go_wp2_with fail
      go_ret
      exact ⟨by rw [← Hrun.out, runOf_end hlt]; rfl, rfl⟩
end Go.Proofs.YtaijdpckkobofaaDoor
