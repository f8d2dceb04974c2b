/- What code.Lines comes to: instructions in memory, their lines. -/
import Derived.Test.YtaijdpckkobofaaDoorLineDef
import Derived.Test.YtaijdpckkobofaaDoorItoa
import Derived.Test.YtaijdpckkobofaaDoorKit2
import Derived.Deep.RegionWith
import Derived.Deep.DeepCutAuto
namespace Go.Proofs.YtaijdpckkobofaaDoor
open Go.RowKit
set_option linter.unusedVariables false

/-- an instruction -/
structure Ins where
  op : Nat
  a : Int
  b : Int
def Ins.ok (i : Ins) : Prop := i.op ≤ 255 ∧ (-9223372036854775808 ≤ i.a ∧ i.a ≤ 9223372036854775807) ∧ (-9223372036854775808 ≤ i.b ∧ i.b ≤ 9223372036854775807)
def Ins.line (i : Ins) : Value := .string ⟨(lineOf i.op i.a i.b).toArray⟩

/-- the cells of a slice of instructions -/
def InsAt (w : World) (g o : Nat) (xs : List Ins) : Prop := ∀ (k : Nat) (x : Ins), xs[k]? = some x → x.ok ∧ w.cell? ⟨g, o + k * 3, none⟩ = some (.int .u8 x.op) ∧ w.cell? ⟨g, o + k * 3 + 1, none⟩ = some (.int .i64 x.a) ∧ w.cell? ⟨g, o + k * 3 + 2, none⟩ = some (.int .i64 x.b)
theorem InsAt.below {w w' : World} {g o : Nat} {xs : List Ins} (h : InsAt w g o xs) (hb : Below w.heap.size w w') (hg : g < w.heap.size) : InsAt w' g o xs := by
  intro k x hk
  obtain ⟨h1, h2, h3, h4⟩ := h k x hk
  exact ⟨h1, (hb.cell (p := ⟨g, _, none⟩) hg).trans h2, (hb.cell (p := ⟨g, _, none⟩) hg).trans h3, (hb.cell (p := ⟨g, _, none⟩) hg).trans h4⟩

theorem opName_at (n : Nat) (h : n < 17) : opNames[n]? = some (opName n) := by
  have : n < opNames.length := by simpa [opNames] using h
  rw [opName, List.getD_eq_getElem?_getD, List.getElem?_eq_getElem this]; rfl

theorem cell_new0 (w : World) (c : Array Value) (t : TypeId) (i : Nat) : (w.alloc (.cells c t)).cell? ⟨w.heap.size, i, none⟩ = c[i]? := by
  have := cell_new w c t 0 0 i
  rw [add_plain, Nat.zero_add] at this
  exact this
theorem below_new (w : World) (o o' : Obj) : Below (w.heap.size + 1) (w.alloc o) ((w.alloc o).alloc o').drew := ((Below.refl _ _).alloc (by rw [World.size_alloc]; exact Nat.le_refl _) _).drew
theorem below_new0 (w : World) (o : Obj) : Below w.heap.size w (w.alloc o).drew := ((Below.refl _ _).alloc (Nat.le_refl _) _).drew
theorem size_new0 (w : World) (o : Obj) : w.heap.size < (w.alloc o).drew.heap.size := by show _ < (w.alloc o).heap.size; rw [World.size_alloc]; omega

theorem bs_eq1 (a b : List UInt8) : (({ data := a.toArray } : ByteArray) ++ (({ data := #[32] } : ByteArray) ++ { data := b.toArray })) = ⟨(a ++ (32 :: b)).toArray⟩ := by
  apply ByteArray.ext; simp
theorem bs_eq2 (a b c : List UInt8) : ((({ data := a.toArray } : ByteArray) ++ (({ data := #[32] } : ByteArray) ++ { data := b.toArray })) ++ (({ data := #[32] } : ByteArray) ++ { data := c.toArray })) = ⟨(a ++ ((32 :: b) ++ (32 :: c))).toArray⟩ := by
  apply ByteArray.ext; simp

theorem info_str : (Tryd.prog.info? 9).map (fun i => (i.zero, i.size, i.bytes)) = some (some (.string ⟨#[]⟩), 1, 16) := by kernel_rfl

end Go.Proofs.YtaijdpckkobofaaDoor
