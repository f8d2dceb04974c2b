/- lex.Stream: Next. -/
import Derived.Test.YtaijdpckkobofaaDoorStr1
namespace Go.Proofs.YtaijdpckkobofaaDoor
open Go.RowKit
set_option linter.unusedVariables false

theorem StW.set4 {b : Nat} {w wr : World} (h : StW b w wr) (hb : b < w.heap.size) {r : Nat} (hr : w.heap.size ≤ r) (x y z u : Value) : StW b w ((((wr.setCell ⟨r, 0, none⟩ x).setCell ⟨r, 1, none⟩ y).setCell ⟨r, 2, none⟩ z).setCell ⟨r, 3, none⟩ u) :=
  (((h.new hr hb 0 x).new hr hb 1 y).new hr hb 2 z).new hr hb 3 u
theorem heap_set_other {w : World} {k r : Nat} (h : k ≠ r) (o : Nat) (v : Value) : (w.setCell ⟨r, o, none⟩ v).heap[k]? = w.heap[k]? := Below.heap_setCell _ _ _ _ h

set_option maxRecDepth 100000 in
set_option maxHeartbeats 1000000 in
/-- Next at an End, or at no token: nothing moves -/
theorem next_stay (b : Nat) (tx : ByteArray) (nm pl : Int) (w : World) (hbl : b < w.heap.size)
    (hpk : ∀ W, Below w.heap.size w W → Calls Tryd.prog 31 #[.pointer (some ⟨b, 0, none⟩)] W fun e w' => e = .returned (.agg #[.int .i64 6, .string tx, .int .i64 nm, .int .i64 pl]) ∧ Below W.heap.size W w') :
    Calls Tryd.prog 32 #[.pointer (some ⟨b, 0, none⟩)] w fun e w' => e = .returned (.agg #[.int .i64 6, .string tx, .int .i64 nm, .int .i64 pl]) ∧ Below w.heap.size w w' := by
  obtain ⟨w1, r, hw1, hr, hh1, hb1, hr1⟩ := zero_tok w
  have HP := Lib.hid hpk
  have HB1 := Lib.hid hb1
  have Hh1 := Lib.hid hh1
  have Hw1 := Lib.hid hw1
  have Hr := Lib.hid hr
  clear hw1 hr hh1 hb1 hpk
  go_enter Tryd.func32, Tryd.ntmps32
  go_upto_region 1 with fail
  rw [Hw1.out, Hr.out]
  clear Hw1
  go_wp2_with fail
  refine (HP.out _ HB1.out).mono ?_
  rintro e w2 ⟨rfl, hb2⟩
  have hh2 : w2.heap[r]? = some (.cells #[.int .i64 0, .string ⟨#[]⟩, .int .i64 0, .int .i64 0] 75 (0, 0)) := (hb2.block r hr1).trans Hh1.out
  have hb12 : Below w.heap.size w w2 := HB1.out.trans (hb2.mono HB1.out.size)
  obtain ⟨w3, p, hw3, hp⟩ : ∃ w3 p, w2.alloc (.cells #[.int .i64 6, .string tx, .int .i64 nm, .int .i64 pl] 75) = w3 ∧ w2.heap.size = p := ⟨_, _, rfl, rfl⟩
  have hb3 : Below w2.heap.size w2 w3 := by rw [← hw3]; exact (Below.refl _ _).alloc (Nat.le_refl _) _
  have hp3 : w3.heap[p]? = some (.cells #[.int .i64 6, .string tx, .int .i64 nm, .int .i64 pl] 75 (0, 0)) := by rw [← hw3, ← hp]; exact heap_new _ _
  have hr2 : r < w2.heap.size := (Array.getElem?_eq_some_iff.1 hh2).1
  have hh3 := (hb3.block r hr2).trans hh2
  have z0 : w3.cell? ⟨r, 0, none⟩ = some (.int .i64 0) := (Lib.cell_of_heap hh3 _).trans rfl
  have z1 : w3.cell? ⟨r, 1, none⟩ = some (.string ⟨#[]⟩) := (Lib.cell_of_heap hh3 _).trans rfl
  have z2 : w3.cell? ⟨r, 2, none⟩ = some (.int .i64 0) := (Lib.cell_of_heap hh3 _).trans rfl
  have z3 : w3.cell? ⟨r, 3, none⟩ = some (.int .i64 0) := (Lib.cell_of_heap hh3 _).trans rfl
  have p0 : w3.cell? ⟨p, 0, none⟩ = some (.int .i64 6) := (Lib.cell_of_heap hp3 _).trans rfl
  have p1 : w3.cell? ⟨p, 1, none⟩ = some (.string tx) := (Lib.cell_of_heap hp3 _).trans rfl
  have p2 : w3.cell? ⟨p, 2, none⟩ = some (.int .i64 nm) := (Lib.cell_of_heap hp3 _).trans rfl
  have p3 : w3.cell? ⟨p, 3, none⟩ = some (.int .i64 pl) := (Lib.cell_of_heap hp3 _).trans rfl
  have f0 := Lib.frozen_of_heap hh3 0
  have f1 := Lib.frozen_of_heap hh3 1
  have f2 := Lib.frozen_of_heap hh3 2
  have f3 := Lib.frozen_of_heap hh3 3
  have HB3 := Lib.hid (hb12.trans (hb3.mono hb12.size))
  clear hb2 hh2 hb12 hb3 hp3 hh3
  go_upto_region 2 with fail
  clear hw3 hp
  go_wp2_with fail
  refine bodyPost_ret (v := .agg #[.int .i64 6, .string tx, .int .i64 nm, .int .i64 pl]) ?_ rfl ?_
  · simp [results, Tryd.results32, go_sem, z0, z1, z2, z3]
  exact ⟨rfl, below_set4' HB3.out Hr.out _ _ _ _⟩

def NextOut (b g o n c : Nat) (t : Tok) (w : World) (e : Ending) (w' : World) : Prop :=
  e = .returned t.val ∧ StrAt b g (o + 4) (n - 1) (c - 1) w' ∧ StW b w w'

set_option maxRecDepth 100000 in
set_option maxHeartbeats 1000000 in
theorem next_go (b g o n c : Nat) (t : Tok) (w : World) (hb : StrAt b g o n c w) (hn : 1 < n) (hnc : n ≤ c) (ht : TkAt w g o t) (hg : g < w.heap.size) (h6 : t.kind ≠ 6) :
    Calls Tryd.prog 32 #[.pointer (some ⟨b, 0, none⟩)] w (NextOut b g o n c t w) := by
  obtain ⟨w1, r, hw1, hr, hh1, hb1, hr1⟩ := zero_tok w
  have hbl := hb.lt
  have hP := peek_at b g o n c t w1 ((hb1.block b hbl).trans hb) (by omega) hnc (ht.below hb1 hg) (by have := hb1.size; omega)
  have HB1 := Lib.hid hb1
  have Hh1 := Lib.hid hh1
  have HBs := Lib.hid hb
  have Hw1 := Lib.hid hw1
  have Hr := Lib.hid hr
  obtain ⟨kd, tx, nm, pl⟩ := t
  dsimp only at hP
  have HP := Lib.hid hP
  clear hP
  have en : ((kd : Int) == 6) = false := by rw [beq_eq_false_iff_ne]; simp at h6; omega
  have hrb : b ≠ r := by omega
  clear hw1 hr hh1 hb1 ht hb h6
  go_enter Tryd.func32, Tryd.ntmps32
  go_upto_region 1 with fail
  rw [Hw1.out, Hr.out]
  clear Hw1
  go_wp2_with fail
  refine HP.out.mono ?_
  rintro e w2 ⟨rfl, hb2⟩
  have hh2 : w2.heap[r]? = some (.cells #[.int .i64 0, .string ⟨#[]⟩, .int .i64 0, .int .i64 0] 75 (0, 0)) := (hb2.block r hr1).trans Hh1.out
  have hb12 : Below w.heap.size w w2 := HB1.out.trans (hb2.mono HB1.out.size)
  obtain ⟨w3, p, hw3, hp⟩ : ∃ w3 p, w2.alloc (.cells #[.int .i64 kd, .string tx, .int .i64 nm, .int .i64 pl] 75) = w3 ∧ w2.heap.size = p := ⟨_, _, rfl, rfl⟩
  have hb3 : Below w2.heap.size w2 w3 := by rw [← hw3]; exact (Below.refl _ _).alloc (Nat.le_refl _) _
  have hp3 : w3.heap[p]? = some (.cells #[.int .i64 kd, .string tx, .int .i64 nm, .int .i64 pl] 75 (0, 0)) := by rw [← hw3, ← hp]; exact heap_new _ _
  have hr2 : r < w2.heap.size := (Array.getElem?_eq_some_iff.1 hh2).1
  have hh3 := (hb3.block r hr2).trans hh2
  have hb13 := hb12.trans (hb3.mono hb12.size)
  have hs3 : StrAt b g o n c w3 := (hb13.block b hbl).trans HBs.out
  have k0 := hs3.cell0
  have kf := Lib.frozen_of_heap hs3 0
  have z0 : w3.cell? ⟨r, 0, none⟩ = some (.int .i64 0) := (Lib.cell_of_heap hh3 _).trans rfl
  have z1 : w3.cell? ⟨r, 1, none⟩ = some (.string ⟨#[]⟩) := (Lib.cell_of_heap hh3 _).trans rfl
  have z2 : w3.cell? ⟨r, 2, none⟩ = some (.int .i64 0) := (Lib.cell_of_heap hh3 _).trans rfl
  have z3 : w3.cell? ⟨r, 3, none⟩ = some (.int .i64 0) := (Lib.cell_of_heap hh3 _).trans rfl
  have p0 : w3.cell? ⟨p, 0, none⟩ = some (.int .i64 kd) := (Lib.cell_of_heap hp3 _).trans rfl
  have f0 := Lib.frozen_of_heap hh3 0
  have f1 := Lib.frozen_of_heap hh3 1
  have f2 := Lib.frozen_of_heap hh3 2
  have f3 := Lib.frozen_of_heap hh3 3
  have hrw : w.heap.size = r := Hr.out
  have HB3 := Lib.hid hb13
  have HS3 := Lib.hid hs3
  have HH3 := Lib.hid hh3
  have HP3 := Lib.hid hp3
  have hpb : p ≠ b := by have := hb12.size; omega
  have hpr : r ≠ b := by omega
  have hI1 : (1 : Int) ≤ (n : Int) := by omega
  have hI2 : (n : Int) ≤ (c : Int) := by omega
  clear hb2 hh2 hb12 hb3 hp3 hh3 hb13 hs3 z0 z1 z2 z3 f0 f1 f2 f3
  go_upto_region 2 with fail
  clear hw3 hp
  go_upto_region 4 with fail
  clear p0 k0 kf
  obtain ⟨w4, hw4⟩ : ∃ w4, w3.setCell ⟨b, 0, none⟩ (.slice (some ⟨g, o + 4, none⟩) (n - 1) (c - 1)) = w4 := ⟨_, rfl⟩
  rw [hw4]
  have hp4 : w4.heap[p]? = some (.cells #[.int .i64 kd, .string tx, .int .i64 nm, .int .i64 pl] 75 (0, 0)) := by rw [← hw4, heap_set_other hpb]; exact HP3.out
  have hh4 : w4.heap[r]? = some (.cells #[.int .i64 0, .string ⟨#[]⟩, .int .i64 0, .int .i64 0] 75 (0, 0)) := by rw [← hw4, heap_set_other hpr]; exact HH3.out
  have HS4 : Hid (StrAt b g (o + 4) (n - 1) (c - 1) w4) := Lib.hid (by
    have hs : w3.heap[b]? = _ := HS3.out
    rw [← hw4]
    unfold StrAt
    simp [World.setCell, Array.getElem?_modify, hs])
  have HW4 : Hid (StW b w w4) := Lib.hid (by rw [← hw4]; exact (StW.of HB3.out (by omega)).set 0 _)
  clear hw4
  have z0 : w4.cell? ⟨r, 0, none⟩ = some (.int .i64 0) := (Lib.cell_of_heap hh4 _).trans rfl
  have z1 : w4.cell? ⟨r, 1, none⟩ = some (.string ⟨#[]⟩) := (Lib.cell_of_heap hh4 _).trans rfl
  have z2 : w4.cell? ⟨r, 2, none⟩ = some (.int .i64 0) := (Lib.cell_of_heap hh4 _).trans rfl
  have z3 : w4.cell? ⟨r, 3, none⟩ = some (.int .i64 0) := (Lib.cell_of_heap hh4 _).trans rfl
  have p0 : w4.cell? ⟨p, 0, none⟩ = some (.int .i64 kd) := (Lib.cell_of_heap hp4 _).trans rfl
  have p1 : w4.cell? ⟨p, 1, none⟩ = some (.string tx) := (Lib.cell_of_heap hp4 _).trans rfl
  have p2 : w4.cell? ⟨p, 2, none⟩ = some (.int .i64 nm) := (Lib.cell_of_heap hp4 _).trans rfl
  have p3 : w4.cell? ⟨p, 3, none⟩ = some (.int .i64 pl) := (Lib.cell_of_heap hp4 _).trans rfl
  have f0 := Lib.frozen_of_heap hh4 0
  have f1 := Lib.frozen_of_heap hh4 1
  have f2 := Lib.frozen_of_heap hh4 2
  have f3 := Lib.frozen_of_heap hh4 3
  clear hp4 hh4
  go_wp2_with fail
  refine bodyPost_ret (v := .agg #[.int .i64 kd, .string tx, .int .i64 nm, .int .i64 pl]) ?_ rfl ?_
  · simp [results, Tryd.results32, go_sem, z0, z1, z2, z3]
  refine ⟨rfl, ?_, HW4.out.set4 hbl (by omega) _ _ _ _⟩
  show (World.setCell _ _ _).heap[b]? = _
  rw [heap_set_other hrb, heap_set_other hrb, heap_set_other hrb, heap_set_other hrb]
  exact HS4.out
end Go.Proofs.YtaijdpckkobofaaDoor
