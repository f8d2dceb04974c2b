/- ref18.Line: one instruction as a line. -/
import Derived.Test.YtbaiefkpjkkeoaaDoorOps
import Derived.Test.YtbaiefkpjkkeoaaDoorDigits
namespace Go.Proofs.YtbaiefkpjkkeoaaDoor
open Go.RowKit
set_option linter.unusedVariables false

/-- the line of an instruction -/
def lineOf (op : Nat) (a b : Int) : List UInt8 :=
  if op < 17 then opName op ++ ((if 0 < usesN op then 32 :: Lib.itoa a else []) ++ (if 1 < usesN op then 32 :: Lib.itoa b else [])) else [63]

theorem usesN_cases (op : Int) : usesN op = 0 ∨ usesN op = 1 ∨ usesN op = 2 := by unfold usesN; (repeat' split) <;> simp

theorem bstr_app (a b : List UInt8) : (⟨a.toArray⟩ : ByteArray) ++ ⟨b.toArray⟩ = ⟨(a ++ b).toArray⟩ := by
  apply ByteArray.ext; simp

theorem opName_len (n : Nat) : (opName n).length ≤ 6 := by
  unfold opName
  rw [List.getD_eq_getElem?_getD]
  rcases Nat.lt_or_ge n 17 with h | h
  · have : ∀ n, n < 17 → (opNames[n]?.getD [63]).length ≤ 6 := by decide
    exact this n h
  · rw [List.getElem?_eq_none (by simpa [opNames] using h)]; decide

set_option maxHeartbeats 1000000 in
theorem rline_any (op : Nat) (a b : Int) (w : World) (h : op ≤ 255) (ha : -9223372036854775808 ≤ a ∧ a ≤ 9223372036854775807) (hb : -9223372036854775808 ≤ b ∧ b ≤ 9223372036854775807) :
    Calls Tryd.prog 12 #[.agg #[.int .u8 op, .int .i64 a, .int .i64 b]] w fun e w' => e = .returned (bstr (lineOf op a b)) ∧ Below w.heap.size w w' := by
  by_cases hop : op < 17
  · have hu0 : 0 ≤ usesN op ∧ usesN op ≤ 2 := by rcases usesN_cases op with h | h | h <;> omega
    generalize hu : usesN op = u at *
    have HU := Lib.hid hu
    clear hu
    go_enter Tryd.func12, Tryd.ntmps12
    go_wp2_with fail
    refine (rname_any op _ h).mono ?_
    rintro e w1 ⟨rfl, hb1⟩
    obtain ⟨hc1, hf1⟩ := bcell hb1
    unfold bstr
    have hL1 := opName_len op
    generalize hnm : opName op = nm at *
    have Hnm := Lib.hid hnm
    clear hnm
    have hz : w.heap.size < w1.heap.size := by have := hb1.size; simp at this; omega
    have hbW : Below w.heap.size w w1 := ((Below.refl _ _).alloc (Nat.le_refl _) _).trans (hb1.mono (by simp))
    go_wp2_with fail
    refine (ruses_any op _ (by omega) (by omega)).mono ?_
    rintro e w' ⟨rfl, rfl⟩
    rw [HU.out]
    by_cases h1 : 0 < u
    · go_wp2_with fail
      refine (digits_any a _ ha.1 ha.2).mono ?_
      rintro e w2 ⟨rfl, hb2⟩
      obtain ⟨hc2, hf2⟩ := bcell hb2
      have hLa := Lib.itoa_length_le a ha.1 ha.2
      generalize hla : Lib.itoa a = la at *
      have Hla := Lib.hid hla
      clear hla
      go_wp2_with fail
      refine (ruses_any op _ (by omega) (by omega)).mono ?_
      rintro e w' ⟨rfl, rfl⟩
      rw [HU.out]
      by_cases h2 : 1 < u
      · go_wp2_with fail
        refine (digits_any b _ hb.1 hb.2).mono ?_
        rintro e w3 ⟨rfl, hb3⟩
        have hLb := Lib.itoa_length_le b hb.1 hb.2
        generalize hlb : Lib.itoa b = lb at *
        have Hlb := Lib.hid hlb
        clear hlb
        go_wp2_with fail
        go_ret
        refine ⟨?_, (hbW.trans (hb2.mono (by omega))).trans (hb3.mono (by have := hb2.size; omega))⟩
        rw [lineOf, if_pos hop, HU.out, if_pos h1, if_pos h2, Hnm.out, Hla.out, Hlb.out]
        refine congrArg (fun s => Ending.returned (Value.string s)) ?_
        apply ByteArray.ext; simp
      · go_wp2_with fail
        go_ret
        refine ⟨?_, hbW.trans (hb2.mono (by omega))⟩
        rw [lineOf, if_pos hop, HU.out, if_pos h1, if_neg (Int.not_lt.2 h2), Hnm.out, Hla.out]
        refine congrArg (fun s => Ending.returned (Value.string s)) ?_
        apply ByteArray.ext; simp
    · go_wp2_with fail
      refine (ruses_any op _ (by omega) (by omega)).mono ?_
      rintro e w' ⟨rfl, rfl⟩
      rw [HU.out]
      have h2 : ¬ 1 < u := by omega
      go_wp2_with fail
      go_ret
      refine ⟨?_, hbW⟩
      rw [lineOf, if_pos hop, HU.out, if_neg (Int.not_lt.2 h1), if_neg (Int.not_lt.2 h2), Hnm.out]
      refine congrArg (fun s => Ending.returned (Value.string s)) ?_
      apply ByteArray.ext; simp
  · go_enter Tryd.func12, Tryd.ntmps12
    go_wp2_with fail
    refine (rname_any op _ h).mono ?_
    rintro e w1 ⟨rfl, hb1⟩
    obtain ⟨hc1, hf1⟩ := bcell hb1
    go_wp2_with fail
    go_ret
    refine ⟨?_, ((Below.refl _ _).alloc (Nat.le_refl _) _).trans (hb1.mono (by simp))⟩
    rw [lineOf, if_neg hop]
    simp [opName, opNames, hop]
end Go.Proofs.YtbaiefkpjkkeoaaDoor
