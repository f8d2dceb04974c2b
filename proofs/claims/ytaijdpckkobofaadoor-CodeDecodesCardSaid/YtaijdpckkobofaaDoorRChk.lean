/- ref18.Check: the number of a program's fault. -/
import Derived.Test.YtaijdpckkobofaaDoorRChkB
import Derived.Test.YtaijdpckkobofaaDoorRChkG0
import Derived.Test.YtaijdpckkobofaaDoorRChkG1
import Derived.Test.YtaijdpckkobofaaDoorRChkG2
namespace Go.Proofs.YtaijdpckkobofaaDoor
open Go.RowKit
theorem rcheck (p : PProg) (ca ma ra sa : Option Addr) (cc mc rc sc : Nat) (w : World) (h : PrgA w p ca cc ma mc ra rc sa sc) :
    Calls Tryd.prog 56 #[prgV p ca cc ma mc ra rc sa sc] w fun e w' => e = .returned (.int .i64 (checkP p : Int)) ∧ Below w.heap.size w w' := by
  by_cases h1 : opsOk p = true
  · by_cases h2 : (f1 p && f2 p && f3 p && f4 p) = true
    · cases h3 : lim1 p.code.length p.msgs.length p.routes.length p.sends.length
      · cases h4 : lim2 p.vars p.stack p.blocks p.fuel
        · exact rcheck_ok p ca ma ra sa cc mc rc sc w h h1 h2 h3 h4
        · exact rcheck_lim2 p ca ma ra sa cc mc rc sc w h h1 h2 h3 h4
      · exact rcheck_lim1 p ca ma ra sa cc mc rc sc w h h1 h2 h3 trivial
    · exact rcheck_bad p ca ma ra sa cc mc rc sc w h (.inr (by simpa using h2))
  · exact rcheck_bad p ca ma ra sa cc mc rc sc w h (.inl (by simpa using h1))
end Go.Proofs.YtaijdpckkobofaaDoor
