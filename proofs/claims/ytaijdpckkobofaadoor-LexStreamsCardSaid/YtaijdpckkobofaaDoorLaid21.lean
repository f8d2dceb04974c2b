/- WHAT THE ROWS OF LAYER 21 LIST, AND A WORLD IN WHICH IT LIES SO: three tables of numbers, two of unicode/utf8, unicode.CaseRanges, two errors of strconv. -/
import Derived.Test.YtaijdpckkobofaaDoorCards
import Derived.Test.YtaijdpckkobofaaDoorTie
import Derived.Test.YtaijdpckkobofaaDoorLexLib
import Derived.ProofKit
import Derived.OpenShut
import Derived.Deep.DeepHandedRow
import Derived.Deep.DeepWitnessRowRef
import Derived.Lib.LaidTab
import Derived.Lib.LaidIn
import Derived.Lib.LaidU8
import Derived.Lib.LaidCaseMet
import Derived.LaidLaws
import Derived.PinnedBridge
namespace Go.Proofs.YtaijdpckkobofaaDoor
open Go.ChangeShapes Go.WideShapes Go.ChangeAt Go.RowKit

theorem own21 : ownKnob Tryd.prog.godebug = none := by kernel_rfl

def deB32b : List Int := [0, 1, 28, 2, 29, 14, 24, 3, 30, 22, 20, 15, 25, 17, 4, 8, 31, 27, 13, 23, 21, 19, 16, 7, 26, 12, 18, 6, 11, 5, 10, 9]
def deB64b : List Int := [0, 1, 56, 2, 57, 49, 28, 3, 61, 58, 42, 50, 38, 29, 17, 4, 62, 47, 59, 36, 45, 43, 51, 22, 53, 39, 33, 30, 24, 18, 12, 5, 63, 55, 48, 27, 60, 41, 37, 16, 46, 35, 44, 21, 52, 32, 23, 11, 54, 26, 40, 15, 34, 20, 31, 10, 25, 14, 19, 9, 13, 8, 7, 6]

noncomputable def laidWorld21 (os : Os) : World :=
  let N := (World.settled Tryd.prog os).heap.size
  let w0 := World.holding Tryd.prog os ⟨#[.cells #[.string ⟨#[118, 97, 108, 117, 101, 32, 111, 117, 116, 32, 111, 102, 32, 114, 97, 110, 103, 101]⟩] 242,
    .cells #[.string ⟨#[105, 110, 118, 97, 108, 105, 100, 32, 115, 121, 110, 116, 97, 120]⟩] 242, .cells Lib.caseCells5 (Tryd.lays204_ren.t 208)], #[], []⟩
  let put (h : Array Obj) (g : Nat) (cs : Array Value) : Array Obj := h.modify g fun
    | .cells _ t frozen => .cells cs t frozen
    | o => o
  let h0 := put w0.heap 4 #[.iface 240 (.pointer (some ⟨N, 0, none⟩))]
  let h1 := put h0 3 #[.iface 240 (.pointer (some ⟨N + 1, 0, none⟩))]
  let h2 := put h1 7 #[.slice (some ⟨N + 2, 0, none⟩) 336 336]
  let h3 := put h2 1 (Lib.pow10Tab.map fun z => Value.int .u64 z).toArray
  let h4 := put h3 5 (deB32b.map fun z => Value.int .u8 z).toArray
  let h5 := put h4 6 (deB64b.map fun z => Value.int .u8 z).toArray
  let h6 := put h5 8 (Lib.firstTab.map fun z => Value.int .u8 z).toArray
  let h7 := put h6 9 ((List.range 16).flatMap fun i => [Value.int .u8 (Lib.accLo i), Value.int .u8 (Lib.accHi i)]).toArray
  { w0 with heap := h7 }

noncomputable abbrev N21 : Nat := (World.settled Tryd.prog default).heap.size

theorem caseX : CaseExtra Tryd.prog Tryd.lays204_ren := ⟨by kernel_rfl, by kernel_rfl, by kernel_rfl, by kernel_rfl, by kernel_rfl, by kernel_rfl⟩

/-- a variable and its rows, each in a block of its own -/
theorem div5 {i n : Nat} (h : i < n * 5) : i / 5 < n := by omega
set_option maxRecDepth 100000 in
theorem caseIn {w : World} (R : Nat) (t : TypeId) (hgR : Tryd.lays204_ren.g 13 ≠ R)
    (hvar : w.heap[Tryd.lays204_ren.g 13]? = some (.cells #[.slice (some ⟨R, 0, none⟩) Lib.caseA.size Lib.caseA.size] (Tryd.lays204_ren.t 162) (0, 0)))
    (hblk : w.heap[R]? = some (.cells Lib.caseCells5 t (0, 0))) : LaidIn Tryd.prog w [("unicode.CaseRanges", Lib.caseData)] [Tryd.lays204_ren.g 13, R] := by
  have hT := caseTab_of_block hblk
  have hread := case_slice_reads (P := Tryd.prog) (ρ := Tryd.lays204_ren) { Tryd.lays204 with } Tryd.lays204.t206 caseX hT caseA_wf (by rw [Lib.caseA_size]; unfold maxLen; omega) 0
  rw [case_rows_data] at hread
  have hv : w.var? Tryd.prog "unicode.CaseRanges" = some #[.slice (some ⟨R, 0, none⟩) Lib.caseA.size Lib.caseA.size] := by simp [World.var?, caseX.n13, hvar]
  refine LaidIn.one _ caseX.n13 caseX.y13 hv hread ?_ ?_ ?_
  · refine List.nodup_append.2 ⟨rowP_nodup _ _, rowP_nodup _ _, ?_⟩
    intro a ha b hb e
    obtain ⟨i, _, rfl⟩ := MemPlace.mem_row.1 ha
    obtain ⟨j, _, rfl⟩ := MemPlace.mem_row.1 hb
    simp at e
    exact hgR e.1
  · intro b off hp
    rcases List.mem_append.1 hp with hp | hp
    · obtain ⟨i, hi, e⟩ := MemPlace.mem_row.1 hp
      cases e
      refine ⟨⟨_, _, hvar⟩, fun u v hc => ?_⟩
      have hi' : i < 1 := hi
      obtain rfl : i = 0 := by omega
      rw [Lib.cell_of_heap hvar] at hc
      simp at hc
    · obtain ⟨i, hi, e⟩ := MemPlace.mem_row.1 hp
      cases e
      refine ⟨⟨_, _, hblk⟩, fun u v hc => ?_⟩
      obtain ⟨c0, c1, c2, c3, c4⟩ := hT (i / 5) (div5 hi)
      have hi5 : 0 + i = 0 + i / 5 * 5 + i % 5 := by omega
      simp only at hc
      rw [hi5] at hc
      have hm : i % 5 < 5 := Nat.mod_lt _ (by omega)
      match hk : i % 5, hm with
      | 0, _ => rw [hk, Nat.add_zero, c0] at hc; cases hc
      | 1, _ => rw [hk, c1] at hc; cases hc
      | 2, _ => rw [hk, c2] at hc; cases hc
      | 3, _ => rw [hk, c3] at hc; cases hc
      | 4, _ => rw [hk, c4] at hc; cases hc
  · intro x hx
    rcases List.mem_append.1 hx with hx | hx
    · obtain ⟨i, _, rfl⟩ := MemPlace.mem_row.1 hx
      exact List.mem_cons.2 (Or.inl rfl)
    · obtain ⟨i, _, rfl⟩ := MemPlace.mem_row.1 hx
      exact List.mem_cons_of_mem _ (List.mem_cons.2 (Or.inl rfl))

def laidA : List (String × DataW Unit) := [("math/bits.deBruijn32tab", Rows.laid_math_bits_deBruijn32tab), ("math/bits.deBruijn64tab", Rows.laid_math_bits_deBruijn64tab), ("internal/strconv.uint64pow10", Rows.laid_internal_strconv_uint64pow10), ("unicode/utf8.acceptRanges", Rows.laid_unicode_utf8_acceptRanges), ("strconv.ErrRange", Rows.laid_strconv_ErrRange), ("strconv.ErrSyntax", Rows.laid_strconv_ErrSyntax)]
def laidC : List (String × DataW Unit) := [("unicode/utf8.first", Lib.firstData)]
def laid21 : List (String × DataW Unit) := laidA ++ [("unicode.CaseRanges", Lib.caseData)] ++ laidC

theorem laid21_eq : Rows.lexPlacesRow.laid = laid21 := by
  unfold laid21 laidC
  rw [← Pinned.caseRanges_eq, ← Pinned.utf8First_eq]
  rfl

theorem laid21_met (os : Os) (args : Array Value) : laidMet Tryd.prog laid21 ((laidWorld21 os).forCall (fun _ _ => 0) ⟨#[], args, []⟩).memory :=
  (((LaidIn.of_run (l := laidA) [5, 6, 1, 9, 4, 3, N21, N21 + 1] 10 (by kernel_rfl) (by kernel_rfl) (by kernel_rfl) (by kernel_rfl)).append
    (caseIn (N21 + 2) (Tryd.lays204_ren.t 208) (of_decide_eq_true (by kernel_rfl)) (by kernel_rfl) (by kernel_rfl)) (by kernel_rfl)).append
    (LaidIn.of_run (l := laidC) [8] 10 (by kernel_rfl) (by kernel_rfl) (by kernel_rfl) (by kernel_rfl)) (by kernel_rfl)).met

theorem errV_named : Tryd.prog.globalNamed "strconv.ErrSyntax" = some 3 := by kernel_rfl
theorem errV_type : (Tryd.prog.globals[3]?).map (·.type) = some 125 := by kernel_rfl

theorem iface_cell {W : World} {nm : String} {d : DataW Unit} (h : Lib.VarReads Tryd.prog W "strconv.ErrSyntax" (.iface nm d)) : ∃ te pe, W.cell? ⟨3, 0, none⟩ = some (.iface te pe) := by
  obtain ⟨g', t', cs, fuel, p, hg', ht', hv, hd⟩ := h
  obtain rfl := Option.some.inj (errV_named.symm.trans hg')
  obtain rfl := Option.some.inj (errV_type.symm.trans ht')
  obtain ⟨f1, u, v, hcs, _⟩ := iface_of_trod Tryd.underlying125 hd
  have h0 := World.var?_cell errV_named hv 0
  refine ⟨u, v, ?_⟩
  rw [h0, ← Array.getElem?_toList, hcs]
  rfl

theorem lexW_of {W : World} (hL : laidMet Tryd.prog laid21 W) (hsh : W.ShapedOpen Tryd.prog) : LexW W := by
  refine ⟨Tryd.laysM144.s1_3 W hsh, ?_, ?_, iface_cell (Lib.laidMet.reads hL (n := "strconv.ErrSyntax") (d := Rows.laid_strconv_ErrSyntax) (.tail _ (.tail _ (.tail _ (.tail _ (.tail _ (.head _)))))))⟩
  · exact caseVar_of_reads (ρ := Tryd.lays204_ren) { Tryd.lays204 with } Tryd.lays204.t206 caseX (Lib.laidMet.reads hL (.tail _ (.tail _ (.tail _ (.tail _ (.tail _ (.tail _ (.head _))))))))
  · exact utf8Tabs_of_reads (ρ := Tryd.lays260_ren) Tryd.lays260 ⟨by kernel_rfl, by kernel_rfl, by kernel_rfl, by kernel_rfl, by kernel_rfl, by kernel_rfl, by kernel_rfl⟩
      (Lib.laidMet.reads hL (.tail _ (.tail _ (.tail _ (.tail _ (.tail _ (.tail _ (.tail _ (.head _)))))))))
      (Lib.laidMet.reads hL (d := Rows.laid_unicode_utf8_acceptRanges) (.tail _ (.tail _ (.tail _ (.head _)))))
end Go.Proofs.YtaijdpckkobofaaDoor
