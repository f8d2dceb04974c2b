/- lex: number. -/
import Derived.Test.YtaijdpckkobofaaDoorLex5
import Derived.Test.YtaijdpckkobofaaDoorLexPlainB
namespace Go.Proofs.YtaijdpckkobofaaDoor
open Go.RowKit
set_option linter.unusedVariables false

set_option maxRecDepth 100000 in
set_option maxHeartbeats 2000000 in
theorem number_any (B b : Nat) (s : ByteArray) (i : Nat) (l : List Tok) (w : World) (h : IsScan B b s i l w) (hi : i < s.size) (hd : isDigit (byteAt s i) = true) (hs : s.size ≤ 8000) (hl : l.length ≤ 8000) (hBw : B ≤ w.heap.size) :
    Calls Tryd.prog 113 #[.pointer (some ⟨b, 0, none⟩)] w (Out B b s l w (numberAt s i)) := by
  obtain ⟨wa, r, hwa, hr, hIa, hra, hWa, hBr, hrb, hrl⟩ := h.fault hBw
  have c0' := hIa.c0
  have c1' := hIa.c1
  have hBa : B ≤ wa.heap.size := by omega
  have hbl := hIa.lt
  have HIa := Lib.hid hIa
  have Hra := Lib.hid hra
  have hj1 := runOf_ge isDigit s i
  have hj2 := runOf_le isDigit s i (by omega)
  obtain ⟨ht0, hat⟩ := number_digits hi hd
  have HNA : Hid (numberAt s i = if 9 < (s.extract i (runOf isDigit s i)).size ∨ (1 < (s.extract i (runOf isDigit s i)).size ∧ byteAt (s.extract i (runOf isDigit s i)) 0 = 48) then .inl i
    else if runOf isDigit s i < s.size ∧ isLetter (byteAt s (runOf isDigit s i)) = true then .inl (runOf isDigit s i)
    else .inr (⟨3, s.extract i (runOf isDigit s i), numOf (s.extract i (runOf isDigit s i)), i⟩, runOf isDigit s i)) := Lib.hid rfl
  have HW : Hid (∀ W, W.cell? ⟨b, 0, none⟩ = some (.string s) → Calls Tryd.prog 108 #[.pointer (some ⟨b, 0, none⟩), .int .i64 i, .func (.func 112) #[] #[]] W fun e w' => e = .returned (.int .i64 (runOf isDigit s i)) ∧ w' = W) := Lib.hid fun W hW => while_isDigit b s i W hW (by omega) (by omega)
  generalize numberAt s i = res at HNA ⊢
  generalize runOf isDigit s i = j at *
  have hext : (s.extract i j).size = j - i := extract_size hj2
  obtain ⟨t, ht⟩ : ∃ t, s.extract i j = t := ⟨_, rfl⟩
  rw [ht] at HNA hext ht0 hat
  have hj0 : (0 : Int) ≤ (j : Int) := by omega
  have hi0 : (0 : Int) ≤ (i : Int) := by omega
  have hij : (i : Int) ≤ (j : Int) := by omega
  have hjs : (j : Int) ≤ (s.size : Int) := by omega
  have hts : t.size ≤ 8000 := by omega
  have hwr : w.heap.size ≤ r := by omega
  obtain ⟨n0, hn0, hb0, hn08⟩ := byteAt_some ht0
  rw [hb0] at HNA
  have HA : Hid (t.size ≤ 18 → ∀ W, Calls Tryd.prog 132 #[.string t] W fun e w' => e = .returned (.tuple #[.int .i64 ((numOf t : Nat) : Int), .nilIface]) ∧ Below W.heap.size W w') := Lib.hid fun h18 W => atoi_any t _ h18 hat W
  generalize numOf t = num at *
  clear h hIa hra hext hat hb0 hd
  go_enter Tryd.func113, Tryd.ntmps113
  go_wp2_with fail
  clear hwa hr
  go_wp2_with (go_at_call 108; refine (HW.out _ c0').mono ?_; rintro e w1 ⟨rfl, rfl⟩)
  go_quiet (fail)
  by_cases hbad : 9 < t.size ∨ (1 < t.size ∧ n0 = 48)
  · rw [if_pos hbad] at HNA
    have hcase : 9 < t.size ∨ (¬ 9 < t.size ∧ 1 < t.size ∧ n0 = 48) := by omega
    clear hbad
    rcases hcase with h9 | ⟨h9, h1, rfl⟩
    all_goals
      go_wp2_with fail
      refine (wrong_any _ _).mono ?_
      rintro e w2 ⟨rfl, hb2⟩
      have hr2 : w2.heap[r]? = some (.cells #[.int .i64 0, .int .i64 0] 71 (0, 0)) := by rw [hb2.block r hrl]; exact Hra.out
      have d0 : w2.cell? ⟨r, 0, none⟩ = some (.int .i64 0) := by rw [Lib.cell_of_heap hr2]; rfl
      have d1 : w2.cell? ⟨r, 1, none⟩ = some (.int .i64 0) := by rw [Lib.cell_of_heap hr2]; rfl
      have f0 := Lib.frozen_of_heap hr2 0
      have f1 := Lib.frozen_of_heap hr2 1
      have HW2 := Lib.hid ((hWa.drewN nq).old hBa hb2)
      clear hr2 hb2
      go_wp2_with fail
      refine bodyPost_ret (v := faultV 9 i) ?_ rfl ?_
      · simp [faultV, results, Tryd.results113, go_sem, d0, d1]
      rw [HNA.out]
      exact Out.bad HW2.out hwr hBr
  · rw [if_neg hbad] at HNA
    have hcase : (¬ 9 < t.size ∧ ¬ 1 < t.size) ∨ (¬ 9 < t.size ∧ 1 < t.size ∧ ((n0 : Int) == 48) = false) := by
      by_cases h1 : 1 < t.size
      · exact Or.inr ⟨by omega, h1, by rw [beq_eq_false_iff_ne]; omega⟩
      · exact Or.inl ⟨by omega, h1⟩
    have h18 : t.size ≤ 18 := by omega
    clear hbad
    rcases hcase with ⟨h9, h1⟩ | ⟨h9, h1, h48⟩
    all_goals
      by_cases hjs' : j < s.size
      · obtain ⟨u2, hu2, hb2, hu28⟩ := byteAt_some hjs'
        rw [hb2] at HNA
        clear hb2
        by_cases hlet : isLetter u2 = true
        · rw [if_pos ⟨hjs', hlet⟩] at HNA
          have HC : Hid (∀ W, Calls Tryd.prog 110 #[.int .u8 u2] W fun e w' => e = .returned (.bool true) ∧ w' = W) := fun W => (letter_any u2 W).mono fun e w' ⟨he, hw⟩ => ⟨by rw [he, hlet], hw⟩
          clear hlet
          go_wp2_with (go_at_call 110; refine (HC.out _).mono ?_; rintro e w1 ⟨rfl, rfl⟩)
          refine (wrong_any _ _).mono ?_
          rintro e w2 ⟨rfl, hb2⟩
          have hr2 : w2.heap[r]? = some (.cells #[.int .i64 0, .int .i64 0] 71 (0, 0)) := by rw [hb2.block r hrl]; exact Hra.out
          have d0 : w2.cell? ⟨r, 0, none⟩ = some (.int .i64 0) := by rw [Lib.cell_of_heap hr2]; rfl
          have d1 : w2.cell? ⟨r, 1, none⟩ = some (.int .i64 0) := by rw [Lib.cell_of_heap hr2]; rfl
          have f0 := Lib.frozen_of_heap hr2 0
          have f1 := Lib.frozen_of_heap hr2 1
          have HW2 := Lib.hid ((hWa.drewN nq).old hBa hb2)
          clear hr2 hb2
          go_wp2_with fail
          refine bodyPost_ret (v := faultV 9 j) ?_ rfl ?_
          · simp [faultV, results, Tryd.results113, go_sem, d0, d1]
          rw [HNA.out]
          exact Out.bad HW2.out hwr hBr
        · rw [if_neg (fun hh => hlet hh.2)] at HNA
          have HC : Hid (∀ W, Calls Tryd.prog 110 #[.int .u8 u2] W fun e w' => e = .returned (.bool false) ∧ w' = W) := fun W => (letter_any u2 W).mono fun e w' ⟨he, hw⟩ => ⟨by rw [he, Bool.eq_false_iff.2 hlet], hw⟩
          clear hlet
          go_wp2_with (go_at_call 110; refine (HC.out _).mono ?_; rintro e w1 ⟨rfl, rfl⟩)
          refine (HA.out h18 _).mono ?_
          rintro e w2 ⟨rfl, hb2⟩
          have hI2 := (HIa.out.drewN nq).old hb2
          have hW2 := (hWa.drewN nq).old hBa hb2
          have hr2 : w2.heap[r]? = some (.cells #[.int .i64 0, .int .i64 0] 71 (0, 0)) := by rw [hb2.block r hrl]; exact Hra.out
          have hB2 : B ≤ w2.heap.size := Nat.le_trans hBa hb2.size
          have HI2 := Lib.hid hI2
          have HR2 := Lib.hid hr2
          clear hI2 hr2 hb2
          go_wp2_with fail
          refine (put_at B b s i l 3 num j _ _ _ _ _ HI2.out hl hB2 rfl rfl rfl).mono ?_
          rintro e w3 ⟨rfl, hI3, hW3⟩
          have hr3 := hW3.keep HR2.out hrb (by decide)
          have d0 : w3.cell? ⟨r, 0, none⟩ = some (.int .i64 0) := by rw [Lib.cell_of_heap hr3]; rfl
          have d1 : w3.cell? ⟨r, 1, none⟩ = some (.int .i64 0) := by rw [Lib.cell_of_heap hr3]; rfl
          have f0 := Lib.frozen_of_heap hr3 0
          have f1 := Lib.frozen_of_heap hr3 1
          have HI3 := Lib.hid hI3
          have HW3 := Lib.hid (hW2.trans hW3)
          have HR3 := Lib.hid hr3
          clear hI3 hW3 hr3
          go_wp2_with fail
          refine bodyPost_ret (v := faultV 0 0) ?_ rfl ?_
          · simp [faultV, results, Tryd.results113, go_sem, d0, d1]
          rw [HNA.out]
          exact Out.ok HI3.out HW3.out HR3.out hrb hwr hBr
      · rw [if_neg (fun hh => hjs' hh.1)] at HNA
        go_wp2_with fail
        refine (HA.out h18 _).mono ?_
        rintro e w2 ⟨rfl, hb2⟩
        have hI2 := (HIa.out.drewN nq).old hb2
        have hW2 := (hWa.drewN nq).old hBa hb2
        have hr2 : w2.heap[r]? = some (.cells #[.int .i64 0, .int .i64 0] 71 (0, 0)) := by rw [hb2.block r hrl]; exact Hra.out
        have hB2 : B ≤ w2.heap.size := Nat.le_trans hBa hb2.size
        have HI2 := Lib.hid hI2
        have HR2 := Lib.hid hr2
        clear hI2 hr2 hb2
        go_wp2_with fail
        refine (put_at B b s i l 3 num j _ _ _ _ _ HI2.out hl hB2 rfl rfl rfl).mono ?_
        rintro e w3 ⟨rfl, hI3, hW3⟩
        have hr3 := hW3.keep HR2.out hrb (by decide)
        have d0 : w3.cell? ⟨r, 0, none⟩ = some (.int .i64 0) := by rw [Lib.cell_of_heap hr3]; rfl
        have d1 : w3.cell? ⟨r, 1, none⟩ = some (.int .i64 0) := by rw [Lib.cell_of_heap hr3]; rfl
        have f0 := Lib.frozen_of_heap hr3 0
        have f1 := Lib.frozen_of_heap hr3 1
        have HI3 := Lib.hid hI3
        have HW3 := Lib.hid (hW2.trans hW3)
        have HR3 := Lib.hid hr3
        clear hI3 hW3 hr3
        go_wp2_with fail
        refine bodyPost_ret (v := faultV 0 0) ?_ rfl ?_
        · simp [faultV, results, Tryd.results113, go_sem, d0, d1]
        rw [HNA.out]
        exact Out.ok HI3.out HW3.out HR3.out hrb hwr hBr
end Go.Proofs.YtaijdpckkobofaaDoor
