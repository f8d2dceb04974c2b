/- The awake of layer 21. -/
import Derived.Test.YtaijdpckkobofaaDoorLaw21a
namespace Go.Proofs.YtaijdpckkobofaaDoor
open Go.RowKit
set_option linter.unusedVariables false

theorem TokAt.new (w : World) (l : List Tok) (vs : Array Value) (h : vs = (toksCells l).toArray) : TokAt (w.alloc (.cells vs 75)) w.heap.size 0 l := by
  subst h
  intro k t hk
  have each : ∀ i, i < 4 → (w.alloc (.cells (toksCells l).toArray 75)).cell? ⟨w.heap.size, 0 + k * 4 + i, none⟩ = t.cells[i]? := by
    intro i hi
    rw [Lib.cell_of_heap (heap_new _ _), List.getElem?_toArray, ← toksCells_get l k i t hk hi]
    congr 1; omega
  exact ⟨each 0 (by omega), each 1 (by omega), each 2 (by omega), each 3 (by omega)⟩

set_option maxRecDepth 100000 in
set_option maxHeartbeats 2000000 in
theorem awake21 (w : World) (hg : LexW w) :
    Calls Tryd.prog 27 #[] w fun e w' => e = .returned (.bool true) ∧ Below w.heap.size w w' := by
  have hS : Hid (Calls Tryd.prog 28 #[.string ⟨#[115, 101, 110, 100, 32, 104, 105, 59]⟩] w (ScanOut w (.inr toks0))) := Lib.hid (by
    have := scan_any src0 w hg
    rw [scanAll_ok (by decide) scan0] at this
    exact this)
  clear hg
  go_enter Tryd.func27, Tryd.ntmps27
  go_wp2_with fail
  refine hS.out.mono ?_
  rintro e w1 ⟨hb1, v, rfl, hown⟩
  obtain ⟨g, cap, rfl, hgB, hgl, htok, _⟩ := TokAt_own hown (by decide)
  have hs1 := hb1.size
  have HB1 := Lib.hid hb1
  have HT := Lib.hid htok
  clear hown hb1 htok hS
  obtain ⟨w2, hw2⟩ : ∃ w2, w1.alloc (.cells #[.int .i64 0, .int .i64 0] 71) = w2 := ⟨_, rfl⟩
  have hb2 : Below w1.heap.size w1 w2 := by rw [← hw2]; exact (Below.refl _ _).alloc (Nat.le_refl _) _
  have HT2 := Lib.hid (HT.out.below hb2 hgl)
  have HT3 := Lib.hid (TokAt.new w2 toks0 #[.int .i64 2, .string ⟨#[115, 101, 110, 100]⟩, .int .i64 0, .int .i64 0, .int .i64 1, .string ⟨#[104, 105]⟩, .int .i64 0, .int .i64 5, .int .i64 5, .string ⟨#[59]⟩, .int .i64 0, .int .i64 7, .int .i64 6, .string ⟨#[]⟩, .int .i64 0, .int .i64 8] rfl)
  have hs2 : g < w2.heap.size := by have := hb2.size; omega
  have HB2 := Lib.hid (HB1.out.trans (hb2.mono hs1))
  have Hw2 := Lib.hid hw2
  clear hb2 hw2
  go_wp2_with fail
  rw [Hw2.out]
  have hsz : w2.heap.size = w1.heap.size + 1 := by rw [← Hw2.out, World.size_alloc]
  refine (same_any g (w1.heap.size + 1) cap 4 toks0 _ ?_ ?_ ?_ ?_ (by decide)).mono ?_
  · exact HT2.out.below ((Below.refl w2.heap.size w2).alloc (Nat.le_refl _) _) hs2
  · rw [← hsz]; exact HT3.out
  · rw [World.size_alloc]; omega
  · rw [World.size_alloc]; omega
  rintro e w4 ⟨rfl, hb4⟩
  have HB4 := Lib.hid ((HB2.out.alloc (by rw [hsz]; omega) _).trans (hb4.mono (by rw [World.size_alloc]; omega)))
  clear hb4
  go_wp2_with fail
  go_ret
  exact ⟨rfl, HB4.out⟩
end Go.Proofs.YtaijdpckkobofaaDoor
