/- lex: the library's functions that the scanner calls, and what they ask of the world. -/
import Derived.Test.YtaijdpckkobofaaDoorLex4
import Derived.Test.YtaijdpckkobofaaDoorLexPlain
import Derived.Test.YtaijdpckkobofaaDoorShelf
import Derived.Lib.AtoiErrMem
namespace Go.Proofs.YtaijdpckkobofaaDoor
open Go.RowKit
set_option linter.unusedVariables false

/-- what the library asks of the world: its tables and errors -/
structure LexW (w : World) : Prop where
  max : ∃ m : Int, w.cell? ⟨2, 0, none⟩ = some (.int .i64 m)
  caseV : Lib.CaseVar 7 Lib.caseA w
  utf : Lib.Utf8Tabs 8 9 w
  errS : ∃ te pe, w.cell? ⟨3, 0, none⟩ = some (.iface te pe)

theorem cell_lt {w : World} {a : Addr} {v : Value} (h : w.cell? a = some v) : a.block < w.heap.size := by
  rcases Nat.lt_or_ge a.block w.heap.size with h' | h'
  · exact h'
  · simp [World.cell?, Array.getElem?_eq_none h'] at h
theorem cell_below {w w' : World} {a : Addr} {v : Value} (k : Below w.heap.size w w') (h : w.cell? a = some v) : w'.cell? a = some v :=
  (k.cell (cell_lt h)).trans h
theorem utf_below {g3 g4 : Nat} {w w' : World} (h : Lib.Utf8Tabs g3 g4 w) (k : Below w.heap.size w w') : Lib.Utf8Tabs g3 g4 w' :=
  ⟨fun c hc => cell_below k (h.1 c hc), fun i hi => ⟨cell_below k (h.2 i hi).1, cell_below k (h.2 i hi).2⟩⟩
theorem LexW.below {w w' : World} (h : LexW w) (k : Below w.heap.size w w') : LexW w' := by
  obtain ⟨⟨m, hm⟩, h2, h3, te, pe, h4⟩ := h
  exact ⟨⟨m, cell_below k hm⟩, Lib.CaseVar_below h2 k, utf_below h3 k, te, pe, cell_below k h4⟩

/-- of a call that owns what lies from B on: the library's tables lie below B -/
def LexAt (B : Nat) (w : World) : Prop := ∃ w0, LexW w0 ∧ w0.heap.size ≤ B ∧ Below w0.heap.size w0 w
theorem LexAt.w {B : Nat} {w : World} (h : LexAt B w) : LexW w := by
  obtain ⟨w0, h0, _, hb⟩ := h
  exact h0.below hb
theorem LexAt.below {B : Nat} {w w' : World} (h : LexAt B w) (k : Below B w w') : LexAt B w' := by
  obtain ⟨w0, h0, hB, hb⟩ := h
  exact ⟨w0, h0, hB, hb.trans (k.mono hB)⟩
theorem LexW.at {w : World} (h : LexW w) : LexAt w.heap.size w := ⟨w, h, Nat.le_refl _, Below.refl _ _⟩

theorem contains_any (a c : ByteArray) (w : World) (hg : LexW w) (ha : a.size < 4294967281) :
    Calls Tryd.prog 131 #[.string a, .string c] w fun e w' => e = .returned (.bool (Lib.contains a.data.toList c.data.toList)) ∧ w = w' := by
  obtain ⟨m, hm⟩ := hg.max
  exact (Tryd.strings_Contains a c m w ha hm).mono fun e w' ⟨h1, h2⟩ => ⟨h1, h2.symm⟩
theorem indexByte_any (a : ByteArray) (c : Int) (w : World) :
    Calls Tryd.prog 115 #[.string a, .int .u8 c] w fun e w' => e = .returned (.int .i64 (Lib.indexByte a.data.toList c.toNat.toUInt8)) ∧ w = w' :=
  (Tryd.strings_IndexByte a c w).mono fun e w' ⟨h1, h2⟩ => ⟨h1, h2.symm⟩
theorem atoi_any (t : ByteArray) (n : Int) (ht : t.size ≤ 18) (h : Lib.atoi t.data.toList = some n) (w : World) :
    Calls Tryd.prog 132 #[.string t] w fun e w' => e = .returned (.tuple #[.int .i64 n, .nilIface]) ∧ Below w.heap.size w w' :=
  (Tryd.strconv_Atoi t n ht h w).mono fun e w' ⟨h1, u, h2⟩ => ⟨h1, by rw [h2]; exact Lib.bytesWorld_below w _ u⟩
theorem toLower_any (t : ByteArray) (w : World) (hg : LexW w) (ht : t.size < 1000000) :
    Calls Tryd.prog 146 #[.string t] w fun e w' => e = .returned (.string ⟨(Lib.toLowerD t.data.toList).toArray⟩) ∧ Below w.heap.size w w' :=
  Tryd.strings_ToLower_any t w (by omega) hg.caseV hg.utf
end Go.Proofs.YtaijdpckkobofaaDoor
