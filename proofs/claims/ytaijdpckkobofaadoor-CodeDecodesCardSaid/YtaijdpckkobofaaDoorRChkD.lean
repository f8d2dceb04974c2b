/- ref18.Check: what its tests come to. (wip/gen_rchk.py) -/
import Derived.Test.YtaijdpckkobofaaDoorChk5
import Derived.Test.YtaijdpckkobofaaDoorOps
import Derived.Deep.CutBlock
namespace Go.Proofs.YtaijdpckkobofaaDoor
open Go.RowKit
set_option linter.unusedVariables false

theorem rnot_f {x : Bool} (h : false = !x) : x = true := by cases x <;> simp_all
theorem rnot_t {x : Bool} (h : true = !x) : x = false := by cases x <;> simp_all
def stopBad (kn : Bool) (dl fl : Int) : Bool := !kn || decide (dl < 0) || decide (1000000 < dl) || decide (fl < 0) || decide (255 < fl)
theorem stopBad_ok (nm : List UInt8) (dl fl : Int) : stopBad (nameOk nm) dl fl = !(stopOk ⟨nm, dl, fl⟩) := by
  rw [Bool.eq_iff_iff]
  cases h : nameOk nm
  · simp [stopBad, stopOk, inB, h]
  · simp [stopBad, stopOk, inB, h]; omega
def specBad (n : Nat) (msg blk : Int) : Bool := decide ((n : Int) < 1) || decide ((8 : Int) < (n : Int)) || decide (msg < 0) || decide (63 < msg) || decide (blk < -1) || decide (15 < blk)
def insBad (u : Nat) (a b lo hi : Int) : Bool := (decide ((u : Int) < 1) && (a != 0)) || (decide ((u : Int) < 2) && (b != 0)) || decide (a < lo) || decide (hi < a) || decide (b < 0) || decide (65535 < b)
def lim1 (n0 n1 n2 n3 : Nat) : Bool := decide ((4000 : Int) < (n0 : Int)) || decide ((64 : Int) < (n1 : Int)) || decide ((64 : Int) < (n2 : Int)) || decide ((64 : Int) < (n3 : Int))
def lim2 (v s b f : Int) : Bool := decide (v < 0) || decide (64 < v) || decide (s < 0) || decide (64 < s) || decide (b < 0) || decide (16 < b) || decide (f < 0) || decide (1000000 < f)
theorem lim_ok (p : PProg) : limOk p = (!(lim1 p.code.length p.msgs.length p.routes.length p.sends.length) && !(lim2 p.vars p.stack p.blocks p.fuel)) := by
  rw [Bool.eq_iff_iff]
  simp [limOk, lim1, lim2, inB]
  omega
def insLo (op : Nat) : Int := if op = 1 then -2147483648 else 0
def insHi (op : Nat) : Int := if op = 1 then 2147483647 else 65535
theorem insBad_ok (op : Nat) (a b : Int) : insBad (usesP op) a b (insLo op) (insHi op) = !(insOk ⟨op, a, b⟩) := by
  rw [Bool.eq_iff_iff]
  have hu : usesP op = 0 ∨ usesP op = 1 ∨ usesP op = 2 := by unfold usesP; (repeat' split) <;> simp
  by_cases h1 : op = 1
  · subst h1
    have : usesP 1 = 1 := rfl
    simp [insBad, insOk, inB, insLo, insHi, this]
    omega
  · rcases hu with h | h | h
    · simp [insBad, insOk, insLo, insHi, h, h1]; omega
    · simp [insBad, insOk, inB, insLo, insHi, h, h1]; omega
    · simp [insBad, insOk, inB, insLo, insHi, h, h1]; omega

end Go.Proofs.YtaijdpckkobofaaDoor
