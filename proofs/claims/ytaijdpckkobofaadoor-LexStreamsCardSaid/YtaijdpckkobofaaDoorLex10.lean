/- lex: token. (wip/gen_lex10.py) -/
import Derived.Test.YtaijdpckkobofaaDoorLex9
import Derived.Laws.Runes
namespace Go.Proofs.YtaijdpckkobofaaDoor
open Go.RowKit
set_option linter.unusedVariables false

theorem Out.ok' {B b : Nat} {s : ByteArray} {l : List Tok} {w w1 w2 : World} {t : Tok} {j r : Nat} {c : Array Value} {fz : Nat × Nat} {x y : Value} (hI : IsScan B b s j (l ++ [t]) w2) (hW1 : Ws B b w w1) (hW : Ws B b w1 w2) (hr : w2.heap[r]? = some (.cells c 71 fz)) (hrb : r ≠ b) (hwr : w.heap.size ≤ r) (hB : B ≤ r) :
    Out B b s l w (.inr (t, j)) (.returned (faultV 0 0)) ((w2.setCell ⟨r, 0, none⟩ x).setCell ⟨r, 1, none⟩ y) := Out.ok hI (hW1.trans hW) hr hrb hwr hB

theorem indexByte_mark (u : Nat) (w : World) : Calls Tryd.prog 115 #[.string ⟨#[59, 44, 123, 125, 40, 41, 61, 62, 64, 33, 43, 45, 42]⟩, .int .u8 u] w fun e w' => e = .returned (.int .i64 (Lib.indexByte markBytes (UInt8.ofNat u))) ∧ w = w' :=
  indexByte_any _ _ _

theorem rune_string (u : Nat) (hu : u < 128) : Utf8.encode (u : Int) = ⟨#[UInt8.ofNat u]⟩ := by
  have : ∀ u : Fin 128, (Utf8.encode ((u.val : Nat) : Int)).data.toList = [UInt8.ofNat u.val] := by decide +kernel
  have h := this ⟨u, hu⟩
  simp only at h
  generalize Utf8.encode (u : Int) = e at h ⊢
  exact ba_ext h

theorem mark_lt : ∀ u : Fin 256, isMark u.val = true → u.val < 128 := by decide +kernel

theorem token_letter {s : ByteArray} {i u : Nat} (hb : byteAt s i = u) (h : isLetter u = true) : tokenAt s i = nameAt s i := by unfold tokenAt; rw [hb, if_pos h]
theorem token_digit {s : ByteArray} {i u : Nat} (hb : byteAt s i = u) (h : isLetter u = false) (h2 : isDigit u = true) : tokenAt s i = numberAt s i := by unfold tokenAt; rw [hb, h, if_neg (by simp), if_pos h2]
theorem token_quote {s : ByteArray} {i u : Nat} (hb : byteAt s i = u) (h3 : u = 34) : tokenAt s i = textAt s i := by
  subst h3; unfold tokenAt; rw [hb, if_neg (by decide), if_neg (by decide), if_pos rfl]
theorem token_mark {s : ByteArray} {i u : Nat} (hb : byteAt s i = u) (h : isLetter u = false) (h2 : isDigit u = false) (h3 : u ≠ 34) (h4 : isMark u = true) : tokenAt s i = .inr (⟨5, ⟨#[UInt8.ofNat u]⟩, 0, i⟩, i + 1) := by
  unfold tokenAt; rw [hb, h, if_neg (by simp), h2, if_neg (by simp), if_neg h3, if_pos h4]
theorem token_none {s : ByteArray} {i u : Nat} (hb : byteAt s i = u) (h : isLetter u = false) (h2 : isDigit u = false) (h3 : u ≠ 34) (h4 : ¬ isMark u = true) : tokenAt s i = .inl i := by
  unfold tokenAt; rw [hb, h, if_neg (by simp), h2, if_neg (by simp), if_neg h3, if_neg h4]

set_option maxRecDepth 100000 in
set_option maxHeartbeats 4000000 in
theorem token_any (B b : Nat) (s : ByteArray) (i : Nat) (l : List Tok) (w : World) (h : IsScan B b s i l w) (hi : i < s.size) (hs : s.size ≤ 8000) (hl : l.length ≤ 8000) (hBw : B ≤ w.heap.size) (hg : LexAt B w) :
    Calls Tryd.prog 68 #[.pointer (some ⟨b, 0, none⟩)] w (Out B b s l w (tokenAt s i)) := by
  obtain ⟨wa, r, hwa, hr, hIa, hra, hWa, hBr, hrb, hrl⟩ := h.fault hBw
  have c0' := hIa.c0
  have c1' := hIa.c1
  have hBa : B ≤ wa.heap.size := by omega
  have HIa := Lib.hid hIa
  have Hra := Lib.hid hra
  have HWa := Lib.hid hWa
  have Hg := Lib.hid (hg.below hWa.below)
  have hwr : w.heap.size ≤ r := by omega
  have hi0 : (0 : Int) ≤ (i : Int) := by omega
  have his : (i : Int) < (s.size : Int) := by omega
  obtain ⟨u, hu, hb, hu8⟩ := byteAt_some hi
  have Hb := Lib.hid hb
  obtain ⟨kl, hkl⟩ : ∃ kl, isLetter u = kl := ⟨_, rfl⟩
  obtain ⟨kd, hkd⟩ : ∃ kd, isDigit u = kd := ⟨_, rfl⟩
  have HL : Hid (∀ W, Calls Tryd.prog 110 #[.int .u8 u] W fun e w' => e = .returned (.bool kl) ∧ w' = W) := fun W => (letter_any u W).mono fun e w' ⟨he, hw⟩ => ⟨by rw [he, hkl], hw⟩
  have HD : Hid (∀ W, Calls Tryd.prog 112 #[.int .u8 u] W fun e w' => e = .returned (.bool kd) ∧ w' = W) := fun W => (digit_any u W).mono fun e w' ⟨he, hw⟩ => ⟨by rw [he, hkd], hw⟩
  have Hkl := Lib.hid hkl
  have Hkd := Lib.hid hkd
  clear h hIa hra hWa hg hb hkl hkd
  go_enter Tryd.func68, Tryd.ntmps68
  go_wp2_with fail
  clear hwa hr
  go_quiet (fail)
  have hBn : B ≤ (wa.drewN nq).heap.size := hBa
  have HIn := Lib.hid (HIa.out.drewN nq)
  have Hgn := Lib.hid (Hg.out.below (below_drewN (Below.refl _ _) nq))
  have HWn := Lib.hid (HWa.out.drewN nq)
  cases kl with
  | true =>
    have HTA := Lib.hid (token_letter Hb.out Hkl.out)
    go_wp2_with (go_at_call 110; refine (HL.out _).mono ?_; rintro e w1 ⟨rfl, rfl⟩)
    refine (name_any B b s i l _ HIn.out (by omega) hs hl hBn Hgn.out).mono ?_
    rintro e w2 ho
    generalize nameAt s i = res at HTA ho
    cases res with
    | inl a =>
      obtain ⟨hW2, rfl⟩ := ho
      have hr2 := hW2.keep Hra.out hrb (by decide)
      have d0 : w2.cell? ⟨r, 0, none⟩ = some (.int .i64 0) := by rw [Lib.cell_of_heap hr2]; rfl
      have d1 : w2.cell? ⟨r, 1, none⟩ = some (.int .i64 0) := by rw [Lib.cell_of_heap hr2]; rfl
      have f0 := Lib.frozen_of_heap hr2 0
      have f1 := Lib.frozen_of_heap hr2 1
      have HW2 := Lib.hid hW2
      clear hr2 hW2
      go_wp2_with fail
      refine bodyPost_ret (v := faultV 9 a) ?_ rfl ?_
      · simp [faultV, results, Tryd.results68, go_sem, d0, d1]
      rw [HTA.out]
      exact Out.bad (HWn.out.trans HW2.out) hwr hBr
    | inr p =>
      obtain ⟨t, j⟩ := p
      obtain ⟨hW2, rfl, hI2⟩ := ho
      have hr2 := hW2.keep Hra.out hrb (by decide)
      have d0 : w2.cell? ⟨r, 0, none⟩ = some (.int .i64 0) := by rw [Lib.cell_of_heap hr2]; rfl
      have d1 : w2.cell? ⟨r, 1, none⟩ = some (.int .i64 0) := by rw [Lib.cell_of_heap hr2]; rfl
      have f0 := Lib.frozen_of_heap hr2 0
      have f1 := Lib.frozen_of_heap hr2 1
      have HI2 := Lib.hid hI2
      have HW2 := Lib.hid hW2
      have HR2 := Lib.hid hr2
      clear hI2 hW2 hr2
      go_wp2_with fail
      refine bodyPost_ret (v := faultV 0 0) ?_ rfl ?_
      · simp [faultV, results, Tryd.results68, go_sem, d0, d1]
      rw [HTA.out]
      exact Out.ok' HI2.out HWn.out HW2.out HR2.out hrb hwr hBr
  | false =>
    cases kd with
    | true =>
      have HTA := Lib.hid (token_digit Hb.out Hkl.out Hkd.out)
      go_wp2_with (first | (go_at_call 110; refine (HL.out _).mono ?_; rintro e w1 ⟨rfl, rfl⟩) | (go_at_call 112; refine (HD.out _).mono ?_; rintro e w1 ⟨rfl, rfl⟩))
      refine (number_any B b s i l _ HIn.out hi (by rw [Hb.out]; exact Hkd.out) hs hl hBn).mono ?_
      rintro e w2 ho
      generalize numberAt s i = res at HTA ho
      cases res with
      | inl a =>
        obtain ⟨hW2, rfl⟩ := ho
        have hr2 := hW2.keep Hra.out hrb (by decide)
        have d0 : w2.cell? ⟨r, 0, none⟩ = some (.int .i64 0) := by rw [Lib.cell_of_heap hr2]; rfl
        have d1 : w2.cell? ⟨r, 1, none⟩ = some (.int .i64 0) := by rw [Lib.cell_of_heap hr2]; rfl
        have f0 := Lib.frozen_of_heap hr2 0
        have f1 := Lib.frozen_of_heap hr2 1
        have HW2 := Lib.hid hW2
        clear hr2 hW2
        go_wp2_with fail
        refine bodyPost_ret (v := faultV 9 a) ?_ rfl ?_
        · simp [faultV, results, Tryd.results68, go_sem, d0, d1]
        rw [HTA.out]
        exact Out.bad (HWn.out.trans HW2.out) hwr hBr
      | inr p =>
        obtain ⟨t, j⟩ := p
        obtain ⟨hW2, rfl, hI2⟩ := ho
        have hr2 := hW2.keep Hra.out hrb (by decide)
        have d0 : w2.cell? ⟨r, 0, none⟩ = some (.int .i64 0) := by rw [Lib.cell_of_heap hr2]; rfl
        have d1 : w2.cell? ⟨r, 1, none⟩ = some (.int .i64 0) := by rw [Lib.cell_of_heap hr2]; rfl
        have f0 := Lib.frozen_of_heap hr2 0
        have f1 := Lib.frozen_of_heap hr2 1
        have HI2 := Lib.hid hI2
        have HW2 := Lib.hid hW2
        have HR2 := Lib.hid hr2
        clear hI2 hW2 hr2
        go_wp2_with fail
        refine bodyPost_ret (v := faultV 0 0) ?_ rfl ?_
        · simp [faultV, results, Tryd.results68, go_sem, d0, d1]
        rw [HTA.out]
        exact Out.ok' HI2.out HWn.out HW2.out HR2.out hrb hwr hBr
    | false =>
      by_cases h34 : u = 34
      · have HTA := Lib.hid (token_quote Hb.out h34)
        subst h34
        go_wp2_with (first | (go_at_call 110; refine (HL.out _).mono ?_; rintro e w1 ⟨rfl, rfl⟩) | (go_at_call 112; refine (HD.out _).mono ?_; rintro e w1 ⟨rfl, rfl⟩))
        refine (text_any B b s i l _ HIn.out hi hs hl hBn Hgn.out).mono ?_
        rintro e w2 ho
        generalize textAt s i = res at HTA ho
        cases res with
        | inl a =>
          obtain ⟨hW2, rfl⟩ := ho
          have hr2 := hW2.keep Hra.out hrb (by decide)
          have d0 : w2.cell? ⟨r, 0, none⟩ = some (.int .i64 0) := by rw [Lib.cell_of_heap hr2]; rfl
          have d1 : w2.cell? ⟨r, 1, none⟩ = some (.int .i64 0) := by rw [Lib.cell_of_heap hr2]; rfl
          have f0 := Lib.frozen_of_heap hr2 0
          have f1 := Lib.frozen_of_heap hr2 1
          have HW2 := Lib.hid hW2
          clear hr2 hW2
          go_wp2_with fail
          refine bodyPost_ret (v := faultV 9 a) ?_ rfl ?_
          · simp [faultV, results, Tryd.results68, go_sem, d0, d1]
          rw [HTA.out]
          exact Out.bad (HWn.out.trans HW2.out) hwr hBr
        | inr p =>
          obtain ⟨t, j⟩ := p
          obtain ⟨hW2, rfl, hI2⟩ := ho
          have hr2 := hW2.keep Hra.out hrb (by decide)
          have d0 : w2.cell? ⟨r, 0, none⟩ = some (.int .i64 0) := by rw [Lib.cell_of_heap hr2]; rfl
          have d1 : w2.cell? ⟨r, 1, none⟩ = some (.int .i64 0) := by rw [Lib.cell_of_heap hr2]; rfl
          have f0 := Lib.frozen_of_heap hr2 0
          have f1 := Lib.frozen_of_heap hr2 1
          have HI2 := Lib.hid hI2
          have HW2 := Lib.hid hW2
          have HR2 := Lib.hid hr2
          clear hI2 hW2 hr2
          go_wp2_with fail
          refine bodyPost_ret (v := faultV 0 0) ?_ rfl ?_
          · simp [faultV, results, Tryd.results68, go_sem, d0, d1]
          rw [HTA.out]
          exact Out.ok' HI2.out HWn.out HW2.out HR2.out hrb hwr hBr
      · have e34 : ((u : Int) == 34) = false := by rw [beq_eq_false_iff_ne]; omega
        by_cases hm : isMark u = true
        · have HTA := Lib.hid (token_mark Hb.out Hkl.out Hkd.out h34 hm)
          have hu128 : u < 128 := mark_lt ⟨u, hu8⟩ hm
          have hz : 0 ≤ Lib.indexByte markBytes (UInt8.ofNat u) := of_decide_eq_true hm
          have HX := Lib.hid (indexByte_mark u)
          generalize Lib.indexByte markBytes (UInt8.ofNat u) = z at HX hz
          have hru := rune_string u hu128
          clear h34 hm
          go_wp2_with (first | (go_at_call 110; refine (HL.out _).mono ?_; rintro e w1 ⟨rfl, rfl⟩) | (go_at_call 112; refine (HD.out _).mono ?_; rintro e w1 ⟨rfl, rfl⟩))
          refine (HX.out _).mono ?_
          rintro e w1 ⟨rfl, rfl⟩
          go_wp2_with fail
          refine (put_at B b s i l 5 0 (i + 1) _ _ _ _ _ HIn.out hl hBn rfl rfl (by omega)).mono ?_
          rintro e w2 ⟨rfl, hI2, hW2⟩
          have hr2 := hW2.keep Hra.out hrb (by decide)
          have d0 : w2.cell? ⟨r, 0, none⟩ = some (.int .i64 0) := by rw [Lib.cell_of_heap hr2]; rfl
          have d1 : w2.cell? ⟨r, 1, none⟩ = some (.int .i64 0) := by rw [Lib.cell_of_heap hr2]; rfl
          have f0 := Lib.frozen_of_heap hr2 0
          have f1 := Lib.frozen_of_heap hr2 1
          have HI2 := Lib.hid hI2
          have HW2 := Lib.hid hW2
          have HR2 := Lib.hid hr2
          clear hI2 hW2 hr2
          go_wp2_with fail
          refine bodyPost_ret (v := faultV 0 0) ?_ rfl ?_
          · simp [faultV, results, Tryd.results68, go_sem, d0, d1]
          rw [HTA.out]
          exact Out.ok' HI2.out HWn.out HW2.out HR2.out hrb hwr hBr
        · have HTA := Lib.hid (token_none Hb.out Hkl.out Hkd.out h34 hm)
          have hz : Lib.indexByte markBytes (UInt8.ofNat u) < 0 := Int.not_le.1 (of_decide_eq_false (Bool.eq_false_iff.2 hm))
          have HX := Lib.hid (indexByte_mark u)
          generalize Lib.indexByte markBytes (UInt8.ofNat u) = z at HX hz
          clear h34 hm
          go_wp2_with (first | (go_at_call 110; refine (HL.out _).mono ?_; rintro e w1 ⟨rfl, rfl⟩) | (go_at_call 112; refine (HD.out _).mono ?_; rintro e w1 ⟨rfl, rfl⟩))
          refine (HX.out _).mono ?_
          rintro e w1 ⟨rfl, rfl⟩
          go_wp2_with fail
          refine (wrong_any _ _).mono ?_
          rintro e w2 ⟨rfl, hb2⟩
          have hr2 : w2.heap[r]? = some (.cells #[.int .i64 0, .int .i64 0] 71 (0, 0)) := by rw [hb2.block r hrl]; exact Hra.out
          have d0 : w2.cell? ⟨r, 0, none⟩ = some (.int .i64 0) := by rw [Lib.cell_of_heap hr2]; rfl
          have d1 : w2.cell? ⟨r, 1, none⟩ = some (.int .i64 0) := by rw [Lib.cell_of_heap hr2]; rfl
          have f0 := Lib.frozen_of_heap hr2 0
          have f1 := Lib.frozen_of_heap hr2 1
          have HW2 := Lib.hid (HWn.out.old hBn hb2)
          clear hr2 hb2
          go_wp2_with fail
          refine bodyPost_ret (v := faultV 9 i) ?_ rfl ?_
          · simp [faultV, results, Tryd.results68, go_sem, d0, d1]
          rw [HTA.out]
          exact Out.bad HW2.out hwr hBr
end Go.Proofs.YtaijdpckkobofaaDoor
