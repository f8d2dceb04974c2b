/- GENERAL LEMMAS OF THIS SEAT'S TEXTS: what a call leaves, rows of cells, endings. No function of the program is walked here. -/
import Derived.Test.YtaijdpckkobofaaDoorProg
import Derived.WalkKit
import Derived.WalkSpells
import Derived.WalkLawsBesides
import Derived.Deep.QuietTactic
import Derived.BigQuiet
import Derived.BigRegion
import Derived.RegionTactic
import Derived.ChangeAlike
import Derived.Lib.Hide
import Derived.Lib.BufferAt
import Derived.Lib.OwnKind
import Derived.IntWalk
import Derived.Outline
import Derived.Deep.RegionWith
import Derived.Deep.RegionHeld3
import Derived.Deep.RegionLaw
import Derived.Deep.DeepCutAuto
import Derived.Deep.DeepFit
namespace Go.Proofs.YtaijdpckkobofaaDoor
open Go.RowKit

theorem ret_int {k : IntKind} {a b : Int} (h : a = b) : Ending.returned (.int k a) = .returned (.int k b) := by rw [h]
theorem ret_bool {a b : Bool} (h : a = b) : Ending.returned (.bool a) = .returned (.bool b) := by rw [h]

/-- a string value of these bytes -/
def bstr (l : List UInt8) : Value := .string ⟨l.toArray⟩

theorem below_drewN {B : Nat} {a w : World} (h : Below B a w) (n : Nat) : Below B a (w.drewN n) := h.trans ⟨rfl, rfl, rfl, Nat.le_refl _, fun _ _ => rfl⟩

theorem add_plain (b o n : Nat) : (⟨b, o, none⟩ : Addr).add n = ⟨b, o + n, none⟩ := by
  unfold Addr.add; split
  · rename_i h; subst h; rfl
  · rfl
theorem cell_new (w : World) (c : Array Value) (t : TypeId) (n i j : Nat) : ((w.alloc (.cells c t)).drewN n).cell? ((⟨w.heap.size, i, none⟩ : Addr).add j) = c[i + j]? := by
  rw [add_plain]
  show (match (w.heap.push (.cells c t))[w.heap.size]? with | some (.cells c _ _) => if (none : Option Nat).isSome then none else c[i + j]? | _ => none) = _
  simp

/-- behind a contract that ends in 'Below': all old cells and marks read as before -/
theorem bcell {W w1 : World} (hb : Below W.heap.size W w1) : (∀ b o, b < W.heap.size → w1.cell? ⟨b, o, none⟩ = W.cell? ⟨b, o, none⟩) ∧ (∀ b o, b < W.heap.size → w1.frozen? ⟨b, o, none⟩ = W.frozen? ⟨b, o, none⟩) :=
  ⟨fun b o h => hb.cell (p := ⟨b, o, none⟩) h, fun b o h => hb.frozen (p := ⟨b, o, none⟩) h⟩

/-- what a writer's call leaves: below B all is as it was; no block but b and rows of bytes has changed -/
structure Wr (B b : Nat) (w w' : World) : Prop where
  below : Below B w w'
  others : Lib.OthersKept 5 (some b) w w'

theorem Wr.refl (B b : Nat) (w : World) : Wr B b w w := ⟨Below.refl _ _, Lib.OthersKept.refl _ _ _⟩
theorem Wr.trans {B b : Nat} {w w1 w2 : World} (h : Wr B b w w1) (k : Wr B b w1 w2) : Wr B b w w2 := ⟨h.below.trans k.below, h.others.trans k.others⟩
theorem Wr.drewN {B b : Nat} {w w1 : World} (h : Wr B b w w1) (n : Nat) : Wr B b w (w1.drewN n) := ⟨below_drewN h.below n, h.others.drewN n⟩
theorem Wr.drew {B b : Nat} {w w1 : World} (h : Wr B b w w1) : Wr B b w w1.drew := ⟨h.below.drew, h.others.drew⟩
theorem Wr.alloc {B b : Nat} {w w1 : World} (h : Wr B b w w1) (hB : B ≤ w1.heap.size) (o : Obj) : Wr B b w (w1.alloc o) := ⟨h.below.alloc hB o, h.others.alloc o⟩
theorem Wr.old {B b : Nat} {w w1 w2 : World} (h : Wr B b w w1) (hB : B ≤ w1.heap.size) (k : Below w1.heap.size w1 w2) : Wr B b w w2 := ⟨h.below.trans (k.mono hB), h.others.below k⟩
theorem Wr.size {B b : Nat} {w w1 : World} (h : Wr B b w w1) : w.heap.size ≤ w1.heap.size := h.below.size
/-- a block that is no row of bytes, and not b, stays -/
theorem Wr.keep {B b : Nat} {w w1 : World} (h : Wr B b w w1) {k : Nat} {c : Array Value} {t : TypeId} {fz : Nat × Nat} (hk : w.heap[k]? = some (.cells c t fz)) (hb : k ≠ b) (ht : t ≠ 5) : w1.heap[k]? = some (.cells c t fz) :=
  h.others k _ hk (by simpa using hb) (fun c' fz' e => ht (by injection e))

theorem Wr.cellB {B b : Nat} {w w1 : World} (h : Wr B b w w1) : ∀ k o, k < B → w1.cell? ⟨k, o, none⟩ = w.cell? ⟨k, o, none⟩ := fun k o hk => h.below.cell (p := ⟨k, o, none⟩) hk
theorem Wr.keepCell {B b : Nat} {w w1 : World} (h : Wr B b w w1) {k : Nat} {c : Array Value} {t : TypeId} {fz : Nat × Nat} (hk : w.heap[k]? = some (.cells c t fz)) (hb : k ≠ b) (ht : t ≠ 5) : ∀ o, w1.cell? ⟨k, o, none⟩ = c[o]? :=
  Lib.cell_of_heap (h.keep hk hb ht)
theorem heap_new (w : World) (o : Obj) : (w.alloc o).heap[w.heap.size]? = some o := by
  show (w.heap.push o)[w.heap.size]? = _
  simp

/-- the bytes of a list of cells -/
def bytesOk (bs : List Value) : Prop := ∀ v ∈ bs, ∃ n : Int, v = .int .u8 n
theorem bytesOk.one {bs : List Value} (h : bytesOk bs) : ∀ v ∈ bs, v.oneCell' = true := fun v hv => by obtain ⟨n, rfl⟩ := h v hv; rfl
theorem bytesOk.append {a b : List Value} (h : bytesOk a) (k : bytesOk b) : bytesOk (a ++ b) := fun v hv => (List.mem_append.1 hv).elim (h v) (k v)
theorem bytesOk.nil : bytesOk [] := fun v hv => by cases hv
theorem bytesOk.cells (l : List UInt8) : bytesOk (Lib.byteCells l) := fun v hv => by
  simp only [Lib.byteCells, List.mem_map] at hv
  obtain ⟨c, _, rfl⟩ := hv
  exact ⟨_, rfl⟩
end Go.Proofs.YtaijdpckkobofaaDoor
