/- lex: the scanner's place in memory; skip. -/
import Derived.Test.YtaijdpckkobofaaDoorLex1
import Derived.Test.YtaijdpckkobofaaDoorKit2
namespace Go.Proofs.YtaijdpckkobofaaDoor
open Go.RowKit
set_option linter.unusedVariables false

/-- a scanner of the call's own, at block b, its list in memory of the call's own (from B on) -/
def IsScan (B b : Nat) (s : ByteArray) (i : Nat) (l : List Tok) (w : World) : Prop :=
  B ≤ b ∧ ∃ v, w.heap[b]? = some (.cells #[.string s, .int .i64 i, v] 138 (0, 0)) ∧ w.ownsRow B 75 4 v l.length (toksCells l) ∧ v.ownBlock ≠ some b

/-- what a scanner's method leaves: below B all is as it was; no block but b and rows of tokens has changed -/
structure Ws (B b : Nat) (w w' : World) : Prop where
  below : Below B w w'
  others : Lib.OthersKept 75 (some b) w w'

theorem Ws.refl (B b : Nat) (w : World) : Ws B b w w := ⟨Below.refl _ _, Lib.OthersKept.refl _ _ _⟩
theorem Ws.trans {B b : Nat} {w w1 w2 : World} (h : Ws B b w w1) (k : Ws B b w1 w2) : Ws B b w w2 := ⟨h.below.trans k.below, h.others.trans k.others⟩
theorem Ws.drewN {B b : Nat} {w w1 : World} (h : Ws B b w w1) (n : Nat) : Ws B b w (w1.drewN n) := ⟨below_drewN h.below n, h.others.drewN n⟩
theorem Ws.drew {B b : Nat} {w w1 : World} (h : Ws B b w w1) : Ws B b w w1.drew := ⟨h.below.drew, h.others.drew⟩
theorem Ws.alloc {B b : Nat} {w w1 : World} (h : Ws B b w w1) (hB : B ≤ w1.heap.size) (o : Obj) : Ws B b w (w1.alloc o) := ⟨h.below.alloc hB o, h.others.alloc o⟩
theorem Ws.old {B b : Nat} {w w1 w2 : World} (h : Ws B b w w1) (hB : B ≤ w1.heap.size) (k : Below w1.heap.size w1 w2) : Ws B b w w2 := ⟨h.below.trans (k.mono hB), h.others.below k⟩
theorem Ws.size {B b : Nat} {w w1 : World} (h : Ws B b w w1) : w.heap.size ≤ w1.heap.size := h.below.size
theorem Ws.keep {B b : Nat} {w w1 : World} (h : Ws B b w w1) {k : Nat} {c : Array Value} {t : TypeId} {fz : Nat × Nat} (hk : w.heap[k]? = some (.cells c t fz)) (hb : k ≠ b) (ht : t ≠ 75) : w1.heap[k]? = some (.cells c t fz) :=
  h.others k _ hk (by simpa using hb) (fun c' fz' e => ht (by injection e))
theorem Ws.set {B b : Nat} {w w1 : World} (h : Ws B b w w1) (hB : B ≤ b) (o : Nat) (v : Value) : Ws B b w (w1.setCell ⟨b, o, none⟩ v) := ⟨h.below.setCell (p := ⟨b, o, none⟩) hB v, h.others.setCell ⟨b, o, none⟩ rfl v⟩

theorem IsScan.c0 {B b : Nat} {s : ByteArray} {i : Nat} {l : List Tok} {w : World} (h : IsScan B b s i l w) : w.cell? ⟨b, 0, none⟩ = some (.string s) := by
  obtain ⟨_, v, hb, _⟩ := h; rw [Lib.cell_of_heap hb]; rfl
theorem IsScan.c1 {B b : Nat} {s : ByteArray} {i : Nat} {l : List Tok} {w : World} (h : IsScan B b s i l w) : w.cell? ⟨b, 1, none⟩ = some (.int .i64 i) := by
  obtain ⟨_, v, hb, _⟩ := h; rw [Lib.cell_of_heap hb]; rfl
theorem IsScan.fz {B b : Nat} {s : ByteArray} {i : Nat} {l : List Tok} {w : World} (h : IsScan B b s i l w) (o : Nat) : w.frozen? ⟨b, o, none⟩ = false := by
  obtain ⟨_, v, hb, _⟩ := h; exact Lib.frozen_of_heap hb o
theorem IsScan.lt {B b : Nat} {s : ByteArray} {i : Nat} {l : List Tok} {w : World} (h : IsScan B b s i l w) : b < w.heap.size := by
  obtain ⟨_, v, hb, _⟩ := h
  rcases Nat.lt_or_ge b w.heap.size with h' | h'
  · exact h'
  · simp [Array.getElem?_eq_none h'] at hb
theorem IsScan.le {B b : Nat} {s : ByteArray} {i : Nat} {l : List Tok} {w : World} (h : IsScan B b s i l w) : B ≤ b := h.1
theorem IsScan.drewN {B b : Nat} {s : ByteArray} {i : Nat} {l : List Tok} {w : World} (h : IsScan B b s i l w) (n : Nat) : IsScan B b s i l (w.drewN n) := h
theorem IsScan.old {B b : Nat} {s : ByteArray} {i : Nat} {l : List Tok} {w w' : World} (h : IsScan B b s i l w) (k : Below w.heap.size w w') : IsScan B b s i l w' := by
  have hlt := h.lt
  obtain ⟨hB, v, hb, ho, hn⟩ := h
  exact ⟨hB, v, by rw [k.block b hlt]; exact hb, ownsRow_old ho k, hn⟩
/-- the place is set -/
theorem IsScan.at_ {B b : Nat} {s : ByteArray} {i : Nat} {l : List Tok} {w : World} (h : IsScan B b s i l w) (j : Nat) : IsScan B b s j l (w.setCell ⟨b, 1, none⟩ (.int .i64 j)) := by
  obtain ⟨hB, v, hb, ho, hn⟩ := h
  refine ⟨hB, v, ?_, ?_, hn⟩
  · simp [World.setCell, Array.getElem?_modify, hb]
  · refine ho.kept (row := some b) ⟨rfl, rfl, rfl, by simp [World.setCell], fun k _ hk => Below.heap_setCell _ _ _ _ (fun e => hk (by simp [e]))⟩ ?_
    exact Or.inr hn
end Go.Proofs.YtaijdpckkobofaaDoor
