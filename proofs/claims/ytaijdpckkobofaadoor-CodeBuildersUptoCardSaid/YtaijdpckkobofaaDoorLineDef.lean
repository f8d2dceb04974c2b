/- The line of an instruction. -/
import Derived.Test.YtaijdpckkobofaaDoorOps
import Derived.Test.YtaijdpckkobofaaDoorBytes1
import Derived.Lib.ItoaLen
import Derived.Lib.ItoaMem
import Derived.Laws.AppendOwnNone
namespace Go.Proofs.YtaijdpckkobofaaDoor
open Go.RowKit
set_option linter.unusedVariables false

/-- the line of an instruction -/
def lineOf (op : Nat) (a b : Int) : List UInt8 :=
  if op < 17 then opName op ++ ((if 0 < usesN op then 32 :: Lib.itoa a else []) ++ (if 1 < usesN op then 32 :: Lib.itoa b else [])) else [63]

theorem usesN_cases (op : Int) : usesN op = 0 ∨ usesN op = 1 ∨ usesN op = 2 := by unfold usesN; (repeat' split) <;> simp

theorem bstr_app (a b : List UInt8) : (⟨a.toArray⟩ : ByteArray) ++ ⟨b.toArray⟩ = ⟨(a ++ b).toArray⟩ := by
  apply ByteArray.ext; simp

theorem opName_len (n : Nat) : (opName n).length ≤ 6 := by
  unfold opName
  rw [List.getD_eq_getElem?_getD]
  rcases Nat.lt_or_ge n 17 with h | h
  · have : ∀ n, n < 17 → (opNames[n]?.getD [63]).length ≤ 6 := by decide
    exact this n h
  · rw [List.getElem?_eq_none (by simpa [opNames] using h)]; decide

theorem below_lit_app {w wr w1 : World} {o : Obj} {n c : Nat} (h : Below w.heap.size w wr) (hg : (wr.alloc o).grownBy w1 (Value.ownBlock (.slice (some ⟨wr.heap.size, 0, none⟩) n c))) : Below w.heap.size w w1 :=
  (h.alloc h.size _).grown hg (by rw [World.size_alloc]; have := h.size; omega) (fun k hk => by
    have e : some wr.heap.size = some k := hk
    have := h.size
    injection e with e; omega)
end Go.Proofs.YtaijdpckkobofaaDoor
