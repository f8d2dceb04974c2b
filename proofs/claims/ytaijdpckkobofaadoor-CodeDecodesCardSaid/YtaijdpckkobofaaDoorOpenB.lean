/- A slice of bytes that came in, and how great it is. -/
import Derived.Test.YtaijdpckkobofaaDoorMem1
import Derived.Deep.Slices
import Derived.OpenShut
import Derived.ProofKit
import Derived.SizedLaws
namespace Go.Proofs.YtaijdpckkobofaaDoor
open Go.ChangeShapes Go.WideShapes Go.ChangeAt Go.RowKit
set_option linter.unusedVariables false

theorem cellsU8 : Tryd.prog.cellsOf 5 = 1 := by kernel_rfl
theorem bytesU8 : Tryd.prog.bytesOf 5 = 1 := by kernel_rfl

theorem len_one {α : Type} {l : List α} (h : l.length = 1) : ∃ a, l = [a] := by
  match l, h with
  | [a], _ => exact ⟨a, rfl⟩

theorem open_bs {H : Type} {enc : TypeId × Value → H} {W : World} {fuel : Nat} {cs : List Value} {x : DataW H × List MemPlace} (h : DataW.trod enc Tryd.prog W 0 (fun _ => true) true fuel 35 cs = some x) :
    ∃ (a : Option Addr) (c : Nat) (l : List UInt8), cs = [.slice a l.length c] ∧ BsA W a l ∧ l.length ≤ c ∧ c ≤ maxLen ∧ (a = none → c = 0) ∧ (l.length = 0 ∨ ∃ (el sp : List (DataW H)), x.1 = .slice el sp ∧ el.length = l.length) := by
  rcases Deep.open_slice Tryd.underlying35 h with ⟨rfl, _⟩ | ⟨a, len, cap, m, n, D, Pl, rfl, hb, hl, hm, hmm, hx, hel⟩
  · exact ⟨none, 0, [], rfl, fun k x hx => by simp at hx, Nat.le_refl _, by unfold maxLen; omega, fun _ => rfl, Or.inl rfl⟩
  · simp only [if_true] at hmm
    subst hmm
    have each : ∀ i, ∃ y : UInt8, i < m → W.cell? (a.add i) = some (.int .u8 (y.toNat : Int)) := by
      intro i
      by_cases hi : i < m
      · obtain ⟨cs', hc, ht⟩ := hel i hi
        rw [cellsU8, Nat.mul_one] at hc
        obtain ⟨hlen, _, hcell⟩ := World.cells?_some hc
        obtain ⟨z, e0, _, w0⟩ := DataW.trod_int Tryd.underlying5 ht
        have b0 := bounds_u8 w0
        refine ⟨UInt8.ofNat z.toNat, fun _ => ?_⟩
        have h0 := hcell 0 (by omega)
        rw [e0] at h0
        have : (a.add i).add 0 = a.add i := by unfold Addr.add; split <;> simp_all
        rw [this] at h0
        rw [h0]
        have hz : ((UInt8.ofNat z.toNat).toNat : Int) = z := by simp; omega
        rw [hz]
        rfl
      · exact ⟨0, fun h => absurd h hi⟩
    obtain ⟨f, hf⟩ := Classical.axiomOfChoice each
    refine ⟨some a, m, (List.range len).map f, by simp, ?_, by simpa using hl, hm, (fun e => by cases e), Or.inr ⟨_, _, by rw [hx], by simp⟩⟩
    intro k y hk
    have hkl : k < len := by
      have := (List.getElem?_eq_some_iff.1 hk).1
      simpa using this
    obtain rfl : f k = y := by simpa [hkl] using hk
    have hk0 := hf k (by omega)
    have hk00 := hf 0 (by omega)
    obtain ⟨g, o, sp⟩ := a
    have hsp : sp = none := by simpa [Addr.add] using World.cell?_spot hk00
    subst hsp
    rw [add_plain] at hk0
    exact ⟨g, o, rfl, World.block_lt_of_cell? W _ hk0, hk0⟩
end Go.Proofs.YtaijdpckkobofaaDoor
