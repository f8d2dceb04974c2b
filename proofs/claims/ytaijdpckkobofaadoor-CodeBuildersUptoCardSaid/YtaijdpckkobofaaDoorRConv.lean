/- string(b) of bytes that lie at an address. -/
import Derived.Test.YtaijdpckkobofaaDoorMem1
namespace Go.Proofs.YtaijdpckkobofaaDoor
open Go.RowKit
set_option linter.unusedVariables false

theorem conv_bs (a : Option Addr) (c n : Nat) (l : List UInt8) (W : World) (h : BsA W a l) (hn : l.length = n) :
    (convert 35 9 (.slice a n c)).run Tryd.prog W = .ok (.string ⟨l.toArray⟩) W := by
  subst hn
  cases a with
  | none =>
    obtain rfl := h.nil_len
    exact run_convert_bytes_nil (P := Tryd.prog) W 35 5 Tryd.underlying35 Tryd.underlying5 0 c 9 Tryd.underlying9
  | some ad =>
    refine run_convert_bytes_back (P := Tryd.prog) W 35 9 5 ad c l Tryd.underlying35 Tryd.underlying5 Tryd.underlying9 ?_
    intro j hj
    obtain ⟨g, o, e, _, hcc⟩ := h j l[j] (List.getElem?_eq_getElem hj)
    cases e
    rw [add_plain]
    exact hcc

end Go.Proofs.YtaijdpckkobofaaDoor
