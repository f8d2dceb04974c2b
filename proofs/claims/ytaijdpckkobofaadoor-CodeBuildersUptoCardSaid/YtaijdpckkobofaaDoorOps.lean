/- THE SMALL FUNCTIONS ABOUT OPS: what an op is called, how many numbers it uses. -/
import Derived.Test.YtaijdpckkobofaaDoorKit
namespace Go.Proofs.YtaijdpckkobofaaDoor
open Go.RowKit
set_option linter.unusedVariables false

def usesN (op : Int) : Int :=
  if op = 1 ∨ op = 5 ∨ op = 6 ∨ op = 7 ∨ op = 8 ∨ op = 9 ∨ op = 10 ∨ op = 11 ∨ op = 13 then 1 else if op = 15 then 2 else 0

theorem uses_any (op : Int) (w : World) (h0 : 0 ≤ op) (h1 : op ≤ 255) :
    Calls Tryd.prog 63 #[.int .u8 op] w fun e w' => e = .returned (.int .i64 (usesN op)) ∧ w = w' := by
  go_enter Tryd.func63, Tryd.ntmps63
  go_wp2
  all_goals
    go_ret
    refine ⟨ret_int ?_, rfl⟩
    simp only [beq_iff_eq, beq_eq_false_iff_ne, ne_eq] at *
    unfold usesN; (repeat' split) <;> omega

theorem ruses_any (op : Int) (w : World) (h0 : 0 ≤ op) (h1 : op ≤ 16) :
    Calls Tryd.prog 102 #[.int .u8 op] w fun e w' => e = .returned (.int .i64 (usesN op)) ∧ w = w' := by
  go_enter Tryd.func102, Tryd.ntmps102
  go_wp2
  all_goals
    go_ret
    refine ⟨ret_int ?_, rfl⟩
    simp only [beq_iff_eq, beq_eq_false_iff_ne, ne_eq] at *
    unfold usesN; (repeat' split) <;> omega

def opNames : List (List UInt8) := [[104, 97, 108, 116], [112, 117, 115, 104], [97, 100, 100], [115, 117, 98], [109, 117, 108], [108, 111, 97, 100], [115, 116, 111, 114, 101], [106, 117, 109, 112], [122, 101, 114, 111], [102, 114, 101, 115, 104], [115, 101, 110, 100], [99, 111, 118, 101, 114], [119, 97, 105, 116], [97, 102, 116, 101, 114], [104, 101, 97, 114, 100], [98, 108, 111, 99, 107], [114, 101, 116]]

def opName (n : Nat) : List UInt8 := opNames.getD n [63]

theorem names_any (w : World) :
    Calls Tryd.prog 62 #[] w fun e w' => e = .returned (.slice (some ⟨w.heap.size, 0, none⟩) 17 17) ∧ w' = w.alloc (.cells (opNames.map bstr).toArray 9) := by
  go_enter Tryd.func62, Tryd.ntmps62
  go_wp2
  go_ret
  exact ⟨rfl, rfl⟩

theorem opName_get (n : Nat) (l : List Value) (hl : n < l.length) (e : l = opNames.map bstr) : l[n] = bstr (opName n) := by
  subst e
  have h : n < opNames.length := by simpa using hl
  rw [List.getElem_map, opName, List.getD_eq_getElem?_getD, List.getElem?_eq_getElem h]
  rfl

end Go.Proofs.YtaijdpckkobofaaDoor
