/- lex.Stream: Peek, Next. -/
import Derived.Test.YtaijdpckkobofaaDoorLaw21a
namespace Go.Proofs.YtaijdpckkobofaaDoor
open Go.RowKit
set_option linter.unusedVariables false

/-- a token's four cells -/
def TkAt (w : World) (g o : Nat) (t : Tok) : Prop := w.cell? ⟨g, o, none⟩ = some (.int .i64 t.kind) ∧ w.cell? ⟨g, o + 1, none⟩ = some (.string t.text) ∧ w.cell? ⟨g, o + 2, none⟩ = some (.int .i64 t.num) ∧ w.cell? ⟨g, o + 3, none⟩ = some (.int .i64 t.at_)
theorem TkAt.below {w w' : World} {g o B : Nat} {t : Tok} (h : TkAt w g o t) (k : Below B w w') (hg : g < B) : TkAt w' g o t := by
  obtain ⟨h0, h1, h2, h3⟩ := h
  exact ⟨(k.cell (p := ⟨g, _, none⟩) hg).trans h0, (k.cell (p := ⟨g, _, none⟩) hg).trans h1, (k.cell (p := ⟨g, _, none⟩) hg).trans h2, (k.cell (p := ⟨g, _, none⟩) hg).trans h3⟩
theorem TokAt.one {w : World} {g : Nat} {l : List Tok} (h : TokAt w g 0 l) {k : Nat} {t : Tok} (ht : l[k]? = some t) : TkAt w g (k * 4) t := h.at0 ht

/-- a stream's one cell: n tokens from o on -/
def StrAt (b g o n c : Nat) (w : World) : Prop := w.heap[b]? = some (.cells #[.slice (some ⟨g, o, none⟩) n c] 80 (0, 0))
theorem StrAt.lt {b g o n c : Nat} {w : World} (h : StrAt b g o n c w) : b < w.heap.size := (Array.getElem?_eq_some_iff.1 h).1

/-- all blocks but b stand as they stood -/
structure StW (b : Nat) (w w' : World) : Prop where
  below : Below b w w'
  oth : ∀ k, k < w.heap.size → k ≠ b → w'.heap[k]? = w.heap[k]?
theorem StW.of {b : Nat} {w w' : World} (h : Below w.heap.size w w') (hb : b ≤ w.heap.size) : StW b w w' := ⟨h.mono hb, fun k hk _ => h.block k hk⟩
theorem StW.trans {b : Nat} {w w1 w2 : World} (h : StW b w w1) (k : StW b w1 w2) : StW b w w2 :=
  ⟨h.below.trans k.below, fun j hj hb => by rw [k.oth j (by have := h.below.size; omega) hb, h.oth j hj hb]⟩
theorem StW.set {b : Nat} {w w1 : World} (h : StW b w w1) (o : Nat) (v : Value) : StW b w (w1.setCell ⟨b, o, none⟩ v) :=
  ⟨h.below.setCell (p := ⟨b, o, none⟩) (Nat.le_refl _) v, fun k hk hb => by rw [Below.heap_setCell _ _ _ _ hb]; exact h.oth k hk hb⟩
theorem StW.new {b : Nat} {w w1 : World} (h : StW b w w1) {r : Nat} (hr : w.heap.size ≤ r) (hb : b < w.heap.size) (o : Nat) (v : Value) : StW b w (w1.setCell ⟨r, o, none⟩ v) :=
  ⟨h.below.setCell (p := ⟨r, o, none⟩) (by show b ≤ r; omega) v, fun k hk hkb => by rw [Below.heap_setCell _ _ _ _ (by show k ≠ r; omega)]; exact h.oth k hk hkb⟩
theorem StW.cell {b : Nat} {w w1 : World} (h : StW b w w1) {k o : Nat} (hk : k < w.heap.size) (hb : k ≠ b) : w1.cell? ⟨k, o, none⟩ = w.cell? ⟨k, o, none⟩ := by
  have := h.oth k hk hb
  unfold World.cell?
  simp only [this]
theorem TkAt.stw {w w' : World} {b g o : Nat} {t : Tok} (h : TkAt w g o t) (k : StW b w w') (hg : g < w.heap.size) (hb : g ≠ b) : TkAt w' g o t := by
  obtain ⟨h0, h1, h2, h3⟩ := h
  exact ⟨(k.cell hg hb).trans h0, (k.cell hg hb).trans h1, (k.cell hg hb).trans h2, (k.cell hg hb).trans h3⟩
theorem StrAt.cell0 {b g o n c : Nat} {w : World} (h : StrAt b g o n c w) : w.cell? ⟨b, 0, none⟩ = some (.slice (some ⟨g, o, none⟩) n c) := by rw [Lib.cell_of_heap h]; rfl

/-- a fresh token cell -/
theorem zero_tok (w : World) : ∃ w1 r, w.alloc (.cells #[.int .i64 0, .string ⟨#[]⟩, .int .i64 0, .int .i64 0] 75) = w1 ∧ w.heap.size = r ∧ w1.heap[r]? = some (.cells #[.int .i64 0, .string ⟨#[]⟩, .int .i64 0, .int .i64 0] 75 (0, 0)) ∧ Below w.heap.size w w1 ∧ r < w1.heap.size :=
  ⟨_, _, rfl, rfl, heap_new _ _, (Below.refl _ _).alloc (Nat.le_refl _) _, by rw [World.size_alloc]; omega⟩
theorem below_set4' {w wr : World} (h : Below w.heap.size w wr) {r : Nat} (hr : w.heap.size = r) (a b c d : Value) : Below w.heap.size w ((((wr.setCell ⟨r, 0, none⟩ a).setCell ⟨r, 1, none⟩ b).setCell ⟨r, 2, none⟩ c).setCell ⟨r, 3, none⟩ d) :=
  (((h.setCell (p := ⟨r, 0, none⟩) (by show _ ≤ r; omega) a).setCell (p := ⟨r, 1, none⟩) (by show _ ≤ r; omega) b).setCell (p := ⟨r, 2, none⟩) (by show _ ≤ r; omega) c).setCell (p := ⟨r, 3, none⟩) (by show _ ≤ r; omega) d

set_option maxRecDepth 100000 in
set_option maxHeartbeats 1000000 in
theorem peek_at (b g o n c : Nat) (t : Tok) (w : World) (hb : StrAt b g o n c w) (hn : 0 < n) (hnc : n ≤ c) (ht : TkAt w g o t) (hg : g < w.heap.size) :
    Calls Tryd.prog 31 #[.pointer (some ⟨b, 0, none⟩)] w fun e w' => e = .returned (.agg #[.int .i64 t.kind, .string t.text, .int .i64 t.num, .int .i64 t.at_]) ∧ Below w.heap.size w w' := by
  obtain ⟨w1, r, hw1, hr, hh1, hb1, hr1⟩ := zero_tok w
  have hbl := hb.lt
  have k0 : w1.cell? ⟨b, 0, none⟩ = some (.slice (some ⟨g, o, none⟩) n c) := (hb1.cell (p := ⟨b, 0, none⟩) hbl).trans hb.cell0
  obtain ⟨t0, t1, t2, t3⟩ := ht.below hb1 hg
  have z0 : w1.cell? ⟨r, 0, none⟩ = some (.int .i64 0) := (Lib.cell_of_heap hh1 _).trans rfl
  have z1 : w1.cell? ⟨r, 1, none⟩ = some (.string ⟨#[]⟩) := (Lib.cell_of_heap hh1 _).trans rfl
  have z2 : w1.cell? ⟨r, 2, none⟩ = some (.int .i64 0) := (Lib.cell_of_heap hh1 _).trans rfl
  have z3 : w1.cell? ⟨r, 3, none⟩ = some (.int .i64 0) := (Lib.cell_of_heap hh1 _).trans rfl
  have f0 := Lib.frozen_of_heap hh1 0
  have f1 := Lib.frozen_of_heap hh1 1
  have f2 := Lib.frozen_of_heap hh1 2
  have f3 := Lib.frozen_of_heap hh1 3
  have HB1 := Lib.hid hb1
  have Hw1 := Lib.hid hw1
  have Hr := Lib.hid hr
  obtain ⟨kd, tx, nm, pl⟩ := t
  simp only at t0 t1 t2 t3
  have en : ((n : Int) == 0) = false := by rw [beq_eq_false_iff_ne]; omega
  clear hw1 hr hh1 hb1 ht hb
  go_enter Tryd.func31, Tryd.ntmps31
  go_upto_region 1 with fail
  rw [Hw1.out, Hr.out]
  clear Hw1
  go_wp2_with fail
  refine bodyPost_ret (v := .agg #[.int .i64 kd, .string tx, .int .i64 nm, .int .i64 pl]) ?_ rfl ?_
  · simp [results, Tryd.results31, go_sem, z0, z1, z2, z3]
  exact ⟨rfl, below_set4' HB1.out Hr.out _ _ _ _⟩

set_option maxRecDepth 100000 in
set_option maxHeartbeats 1000000 in
theorem peek_nil (b : Nat) (w : World) (hb : w.heap[b]? = some (.cells #[.slice none 0 0] 80 (0, 0))) :
    Calls Tryd.prog 31 #[.pointer (some ⟨b, 0, none⟩)] w fun e w' => e = .returned (.agg #[.int .i64 6, .string ⟨#[]⟩, .int .i64 0, .int .i64 0]) ∧ Below w.heap.size w w' := by
  obtain ⟨w1, r, hw1, hr, hh1, hb1, hr1⟩ := zero_tok w
  have hbl : b < w.heap.size := (Array.getElem?_eq_some_iff.1 hb).1
  have k0 : w1.cell? ⟨b, 0, none⟩ = some (.slice none 0 0) := (hb1.cell (p := ⟨b, 0, none⟩) hbl).trans ((Lib.cell_of_heap hb _).trans rfl)
  have z0 : w1.cell? ⟨r, 0, none⟩ = some (.int .i64 0) := (Lib.cell_of_heap hh1 _).trans rfl
  have z1 : w1.cell? ⟨r, 1, none⟩ = some (.string ⟨#[]⟩) := (Lib.cell_of_heap hh1 _).trans rfl
  have z2 : w1.cell? ⟨r, 2, none⟩ = some (.int .i64 0) := (Lib.cell_of_heap hh1 _).trans rfl
  have z3 : w1.cell? ⟨r, 3, none⟩ = some (.int .i64 0) := (Lib.cell_of_heap hh1 _).trans rfl
  have f0 := Lib.frozen_of_heap hh1 0
  have f1 := Lib.frozen_of_heap hh1 1
  have f2 := Lib.frozen_of_heap hh1 2
  have f3 := Lib.frozen_of_heap hh1 3
  have HB1 := Lib.hid hb1
  have Hw1 := Lib.hid hw1
  have Hr := Lib.hid hr
  clear hw1 hr hh1 hb1 hb
  go_enter Tryd.func31, Tryd.ntmps31
  go_upto_region 1 with fail
  rw [Hw1.out, Hr.out]
  clear Hw1
  go_wp2_with fail
  refine bodyPost_ret (v := .agg #[.int .i64 6, .string ⟨#[]⟩, .int .i64 0, .int .i64 0]) ?_ rfl ?_
  · simp [results, Tryd.results31, go_sem, z0, z1, z2, z3]
  exact ⟨rfl, below_set4' HB1.out Hr.out _ _ _ _⟩
end Go.Proofs.YtaijdpckkobofaaDoor
