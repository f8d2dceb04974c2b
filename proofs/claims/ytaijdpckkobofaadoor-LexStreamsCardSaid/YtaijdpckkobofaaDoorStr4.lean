/- lex.Stream: Take, Want. -/
import Derived.Test.YtaijdpckkobofaaDoorStr3
namespace Go.Proofs.YtaijdpckkobofaaDoor
open Go.RowKit
set_option linter.unusedVariables false

theorem contains_one (blk : Nat) (x tx : ByteArray) (W : World) (h : W.cell? ⟨blk, 0, none⟩ = some (.string x)) :
    Calls Tryd.prog 72 #[.slice (some ⟨blk, 0, none⟩) 1 1, .string tx] W fun e w' => e = .returned (.bool (decide (tx = x))) ∧ Below W.heap.size W w' := by
  refine (Tryd.slices_Contains_string blk 0 1 1 [x] tx W (by simp) (by decide) ?_).mono ?_
  · intro j hj
    obtain rfl : j = 0 := by simp at hj; omega
    exact h
  · rintro e w' ⟨rfl, rfl⟩
    refine ⟨ret_bool ?_, Below.refl _ _⟩
    rw [Bool.eq_iff_iff, Lib.containsS_iff, decide_eq_true_iff]
    simp
theorem zero_fault (w : World) : ∃ w1 r, w.alloc (.cells #[.int .i64 0, .int .i64 0] 71) = w1 ∧ w.heap.size = r ∧ w1.heap[r]? = some (.cells #[.int .i64 0, .int .i64 0] 71 (0, 0)) ∧ Below w.heap.size w w1 ∧ r < w1.heap.size :=
  ⟨_, _, rfl, rfl, heap_new _ _, (Below.refl _ _).alloc (Nat.le_refl _) _, by rw [World.size_alloc]; omega⟩
theorem below_set2' {w wr : World} (h : Below w.heap.size w wr) {r : Nat} (hr : w.heap.size ≤ r) (a b : Value) : Below w.heap.size w ((wr.setCell ⟨r, 0, none⟩ a).setCell ⟨r, 1, none⟩ b) :=
  (h.setCell (p := ⟨r, 0, none⟩) hr a).setCell (p := ⟨r, 1, none⟩) hr b
theorem StW.set2 {b : Nat} {w wr : World} (h : StW b w wr) (hb : b < w.heap.size) {r : Nat} (hr : w.heap.size ≤ r) (x y : Value) : StW b w ((wr.setCell ⟨r, 0, none⟩ x).setCell ⟨r, 1, none⟩ y) :=
  (h.new hr hb 0 x).new hr hb 1 y
theorem StrAt.set {b g o n c : Nat} {w : World} (h : StrAt b g o n c w) {r : Nat} (hr : b ≠ r) (k : Nat) (v : Value) : StrAt b g o n c (w.setCell ⟨r, k, none⟩ v) := by
  unfold StrAt; rw [heap_set_other hr]; exact h
theorem StrAt.below {b g o n c : Nat} {w w' : World} (h : StrAt b g o n c w) (k : Below w.heap.size w w') : StrAt b g o n c w' := (k.block b h.lt).trans h

theorem field_at (kd nm pl : Int) (tx : ByteArray) : ∀ W : World, (Instr.field 75 (.agg #[.int .i64 kd, .string tx, .int .i64 nm, .int .i64 pl]) 3).run Tryd.prog W = .ok (.int .i64 pl) W := fun _ => by kernel_rfl
theorem field_kind (kd nm pl : Int) (tx : ByteArray) : ∀ W : World, (Instr.field 75 (.agg #[.int .i64 kd, .string tx, .int .i64 nm, .int .i64 pl]) 0).run Tryd.prog W = .ok (.int .i64 kd) W := fun _ => by kernel_rfl

set_option maxRecDepth 100000 in
set_option maxHeartbeats 1000000 in
theorem take_no (b kd nm pl : Nat) (tx x : ByteArray) (w : World) (hp : Peeks b kd tx nm pl w) (hno : (isWM kd && decide (tx = x)) = false) :
    Calls Tryd.prog 36 #[.pointer (some ⟨b, 0, none⟩), .string x] w fun e w' => e = .returned (faultV 9 pl) ∧ Below w.heap.size w w' := by
  obtain ⟨w1, r, hw1, hr, hh1, hb1, hr1⟩ := zero_fault w
  obtain ⟨w2, blk, hw2, hblk⟩ : ∃ w2 blk, w1.alloc (.cells #[.string x] 9) = w2 ∧ w1.heap.size = blk := ⟨_, _, rfl, rfl⟩
  have hb2 : Below w1.heap.size w1 w2 := by rw [← hw2]; exact (Below.refl _ _).alloc (Nat.le_refl _) _
  have hc2 : w2.cell? ⟨blk, 0, none⟩ = some (.string x) := by rw [← hw2, ← hblk]; exact (Lib.cell_of_heap (heap_new _ _) _).trans rfl
  have hl2 : blk < w2.heap.size := by rw [← hw2, ← hblk, World.size_alloc]; omega
  have hb12 := hb1.trans (hb2.mono hb1.size)
  have HI : Hid (Calls Tryd.prog 33 #[.pointer (some ⟨b, 0, none⟩), .slice (some ⟨blk, 0, none⟩) 1 1] w2 fun e w' => e = .returned (.bool false) ∧ Below w2.heap.size w2 w') := Lib.hid (by
    have := is_at b (.slice (some ⟨blk, 0, none⟩) 1 1) kd nm pl tx (decide (tx = x)) w2 (hp.below hb12) (fun W hW => contains_one blk x tx W ((hW.cell (p := ⟨blk, 0, none⟩) hl2).trans hc2))
    rw [hno] at this; exact this)
  have HP := Lib.hid hp
  have HB2 := Lib.hid hb12
  have HH2 := Lib.hid ((hb2.block r hr1).trans hh1)
  have hr2 : r < w2.heap.size := by have := hb2.size; omega
  have Hw1 := Lib.hid hw1
  have Hr := Lib.hid hr
  have hwr : w.heap.size ≤ r := by omega
  clear hw1 hr hh1 hb1 hb2 hb12 hc2 hno hp
  go_enter Tryd.func36, Tryd.ntmps36
  go_upto_region 1 with fail
  rw [Hw1.out, Hr.out]
  clear Hw1
  go_wp2_with fail
  refine HI.out.mono ?_
  rintro e w3 ⟨rfl, hb3⟩
  clear hw2 hblk
  have HB3 := Lib.hid (HB2.out.trans (hb3.mono HB2.out.size))
  have HH3 := Lib.hid ((hb3.block r hr2).trans HH2.out)
  have hr3 : r < w3.heap.size := by have := hb3.size; omega
  clear hb3
  go_wp2_with fail
  refine (HP.out _ HB3.out).mono ?_
  rintro e w4 ⟨rfl, hb4⟩
  have HB4 := Lib.hid (HB3.out.trans (hb4.mono HB3.out.size))
  have HH4 := Lib.hid ((hb4.block r hr3).trans HH3.out)
  have hr4 : r < w4.heap.size := by have := hb4.size; omega
  clear hb4
  have hfd := field_at kd nm pl tx
  go_wp2_with fail
  refine (wrong_any _ _).mono ?_
  rintro e w5 ⟨rfl, hb5⟩
  have HB5 := Lib.hid (HB4.out.trans (hb5.mono HB4.out.size))
  have hh5 := (hb5.block r hr4).trans HH4.out
  have z0 : w5.cell? ⟨r, 0, none⟩ = some (.int .i64 0) := (Lib.cell_of_heap hh5 _).trans rfl
  have z1 : w5.cell? ⟨r, 1, none⟩ = some (.int .i64 0) := (Lib.cell_of_heap hh5 _).trans rfl
  have f0 := Lib.frozen_of_heap hh5 0
  have f1 := Lib.frozen_of_heap hh5 1
  clear hb5 hh5
  go_wp2_with fail
  refine bodyPost_ret (v := faultV 9 pl) ?_ rfl ?_
  · simp [faultV, results, Tryd.results36, go_sem, z0, z1]
  exact ⟨rfl, below_set2' HB5.out hwr _ _⟩

set_option maxRecDepth 100000 in
set_option maxHeartbeats 1000000 in
theorem take_yes (b g o n c : Nat) (t : Tok) (w : World) (hb : StrAt b g o n c w) (hn : 1 < n) (hnc : n ≤ c) (ht : TkAt w g o t) (hg : g < w.heap.size) (hk : isWM t.kind = true) :
    Calls Tryd.prog 36 #[.pointer (some ⟨b, 0, none⟩), .string t.text] w fun e w' => e = .returned (faultV 0 0) ∧ StrAt b g (o + 4) (n - 1) (c - 1) w' ∧ StW b w w' := by
  obtain ⟨w1, r, hw1, hr, hh1, hb1, hr1⟩ := zero_fault w
  obtain ⟨kd, tx, nm, pl⟩ := t
  have h6 : kd ≠ 6 := by simp [isWM] at hk; omega
  have hp := Peeks.of hb (by omega) hnc ht hg
  dsimp only at hp hk
  obtain ⟨w2, blk, hw2, hblk⟩ : ∃ w2 blk, w1.alloc (.cells #[.string tx] 9) = w2 ∧ w1.heap.size = blk := ⟨_, _, rfl, rfl⟩
  have hb2 : Below w1.heap.size w1 w2 := by rw [← hw2]; exact (Below.refl _ _).alloc (Nat.le_refl _) _
  have hc2 : w2.cell? ⟨blk, 0, none⟩ = some (.string tx) := by rw [← hw2, ← hblk]; exact (Lib.cell_of_heap (heap_new _ _) _).trans rfl
  have hl2 : blk < w2.heap.size := by rw [← hw2, ← hblk, World.size_alloc]; omega
  have hb12 := hb1.trans (hb2.mono hb1.size)
  have HI : Hid (Calls Tryd.prog 33 #[.pointer (some ⟨b, 0, none⟩), .slice (some ⟨blk, 0, none⟩) 1 1] w2 fun e w' => e = .returned (.bool true) ∧ Below w2.heap.size w2 w') := Lib.hid (by
    have := is_at b (.slice (some ⟨blk, 0, none⟩) 1 1) kd nm pl tx (decide (tx = tx)) w2 (hp.below hb12) (fun W hW => contains_one blk tx tx W ((hW.cell (p := ⟨blk, 0, none⟩) hl2).trans hc2))
    rw [hk, decide_eq_true rfl] at this; exact this)
  have HS := Lib.hid hb
  have HT := Lib.hid ht
  have hbl := hb.lt
  have HB2 := Lib.hid hb12
  have HH2 := Lib.hid ((hb2.block r hr1).trans hh1)
  have hr2 : r < w2.heap.size := by have := hb2.size; omega
  have Hw1 := Lib.hid hw1
  have Hr := Lib.hid hr
  have hwr : w.heap.size ≤ r := by omega
  clear hw1 hr hh1 hb1 hb2 hb12 hc2 hp hb ht hk
  go_enter Tryd.func36, Tryd.ntmps36
  go_upto_region 1 with fail
  rw [Hw1.out, Hr.out]
  clear Hw1
  go_wp2_with fail
  refine HI.out.mono ?_
  rintro e w3 ⟨rfl, hb3⟩
  clear hw2 hblk
  have HB3 := Lib.hid (HB2.out.trans (hb3.mono HB2.out.size))
  have HH3 := Lib.hid ((hb3.block r hr2).trans HH2.out)
  have hr3 : r < w3.heap.size := by have := hb3.size; omega
  have hg3 : g < w3.heap.size := by have := HB3.out.size; omega
  clear hb3
  go_wp2_with fail
  refine (next_go b g o n c ⟨kd, tx, nm, pl⟩ w3 (HS.out.below HB3.out) hn hnc (HT.out.below HB3.out hg) hg3 h6).mono ?_
  rintro e w4 ⟨rfl, hs4, hW4⟩
  have hh4 := (hW4.oth r hr3 (by omega)).trans HH3.out
  have z0 : w4.cell? ⟨r, 0, none⟩ = some (.int .i64 0) := (Lib.cell_of_heap hh4 _).trans rfl
  have z1 : w4.cell? ⟨r, 1, none⟩ = some (.int .i64 0) := (Lib.cell_of_heap hh4 _).trans rfl
  have f0 := Lib.frozen_of_heap hh4 0
  have f1 := Lib.frozen_of_heap hh4 1
  have HS4 := Lib.hid hs4
  have HW4 := Lib.hid ((StW.of HB3.out (by omega)).trans hW4)
  clear hh4 hs4 hW4
  go_wp2_with fail
  refine bodyPost_ret (v := faultV 0 0) ?_ rfl ?_
  · simp [faultV, results, Tryd.results36, go_sem, z0, z1]
  exact ⟨rfl, (HS4.out.set (by omega) _ _).set (by omega) _ _, HW4.out.set2 hbl hwr _ _⟩

/-- Want's two cells -/
theorem zero_two (w : World) : ∃ w1 r, (w.alloc (.cells #[.int .i64 0, .string ⟨#[]⟩, .int .i64 0, .int .i64 0] 75)).alloc (.cells #[.int .i64 0, .int .i64 0] 71) = w1 ∧ w.heap.size = r ∧ w1.heap[r]? = some (.cells #[.int .i64 0, .string ⟨#[]⟩, .int .i64 0, .int .i64 0] 75 (0, 0)) ∧ w1.heap[r + 1]? = some (.cells #[.int .i64 0, .int .i64 0] 71 (0, 0)) ∧ Below w.heap.size w w1 ∧ r + 1 < w1.heap.size := by
  refine ⟨_, _, rfl, rfl, ?_, ?_, ((Below.refl _ _).alloc (Nat.le_refl _) _).alloc (by rw [World.size_alloc]; omega) _, by rw [World.size_alloc, World.size_alloc]; omega⟩
  · rw [Lib.alloc_old _ _ _ (by rw [World.size_alloc]; omega)]; exact heap_new _ _
  · have := heap_new (w.alloc (.cells #[.int .i64 0, .string ⟨#[]⟩, .int .i64 0, .int .i64 0] 75)) (.cells #[.int .i64 0, .int .i64 0] 71)
    rwa [World.size_alloc] at this

set_option maxRecDepth 100000 in
set_option maxHeartbeats 1000000 in
theorem want_no (b kd nm pl : Nat) (q : Int) (tx : ByteArray) (w : World) (hp : Peeks b kd tx nm pl w) (hne : (kd : Int) ≠ q) :
    Calls Tryd.prog 37 #[.pointer (some ⟨b, 0, none⟩), .int .i64 q] w fun e w' => e = .returned (.tuple #[.agg #[.int .i64 0, .string ⟨#[]⟩, .int .i64 0, .int .i64 0], faultV 9 pl]) ∧ Below w.heap.size w w' := by
  obtain ⟨w1, r, hw1, hr, hh1, hi1, hb1, hr1⟩ := zero_two w
  have HP := Lib.hid hp
  have HB1 := Lib.hid hb1
  have HH1 := Lib.hid hh1
  have HI1 := Lib.hid hi1
  have Hw1 := Lib.hid hw1
  have Hr := Lib.hid hr
  have hwr : w.heap.size ≤ r := by omega
  have ene : ((kd : Int) != q) = true := by simp; omega
  have hfk := field_kind kd nm pl tx
  have hfd := field_at kd nm pl tx
  clear hw1 hr hh1 hi1 hb1 hne hp
  go_enter Tryd.func37, Tryd.ntmps37
  go_upto_region 1 with fail
  rw [Hw1.out, Hr.out]
  clear Hw1
  go_wp2_with fail
  refine (HP.out _ HB1.out).mono ?_
  rintro e w3 ⟨rfl, hb3⟩
  have HB3 := Lib.hid (HB1.out.trans (hb3.mono HB1.out.size))
  have HH3 := Lib.hid ((hb3.block r (by omega)).trans HH1.out)
  have HI3 := Lib.hid ((hb3.block (r + 1) hr1).trans HI1.out)
  have hr3 : r + 1 < w3.heap.size := by have := hb3.size; omega
  clear hb3
  go_wp2_with fail
  refine (HP.out _ HB3.out).mono ?_
  rintro e w4 ⟨rfl, hb4⟩
  have HB4 := Lib.hid (HB3.out.trans (hb4.mono HB3.out.size))
  have HH4 := Lib.hid ((hb4.block r (by omega)).trans HH3.out)
  have HI4 := Lib.hid ((hb4.block (r + 1) hr3).trans HI3.out)
  have hr4 : r + 1 < w4.heap.size := by have := hb4.size; omega
  clear hb4
  go_wp2_with fail
  refine (wrong_any _ _).mono ?_
  rintro e w5 ⟨rfl, hb5⟩
  have HB5 := Lib.hid (HB4.out.trans (hb5.mono HB4.out.size))
  have hh5 := (hb5.block r (by omega)).trans HH4.out
  have hi5 := (hb5.block (r + 1) hr4).trans HI4.out
  have z0 : w5.cell? ⟨r, 0, none⟩ = some (.int .i64 0) := (Lib.cell_of_heap hh5 _).trans rfl
  have z1 : w5.cell? ⟨r, 1, none⟩ = some (.string ⟨#[]⟩) := (Lib.cell_of_heap hh5 _).trans rfl
  have z2 : w5.cell? ⟨r, 2, none⟩ = some (.int .i64 0) := (Lib.cell_of_heap hh5 _).trans rfl
  have z3 : w5.cell? ⟨r, 3, none⟩ = some (.int .i64 0) := (Lib.cell_of_heap hh5 _).trans rfl
  have y0 : w5.cell? ⟨r + 1, 0, none⟩ = some (.int .i64 0) := (Lib.cell_of_heap hi5 _).trans rfl
  have y1 : w5.cell? ⟨r + 1, 1, none⟩ = some (.int .i64 0) := (Lib.cell_of_heap hi5 _).trans rfl
  have f0 := Lib.frozen_of_heap hh5 0
  have f1 := Lib.frozen_of_heap hh5 1
  have f2 := Lib.frozen_of_heap hh5 2
  have f3 := Lib.frozen_of_heap hh5 3
  have g0 := Lib.frozen_of_heap hi5 0
  have g1 := Lib.frozen_of_heap hi5 1
  clear hb5 hh5 hi5 hfk hfd
  go_wp2_with fail
  refine bodyPost_ret (v := .tuple #[.agg #[.int .i64 0, .string ⟨#[]⟩, .int .i64 0, .int .i64 0], faultV 9 pl]) ?_ rfl ?_
  · simp [faultV, results, Tryd.results37, go_sem, z0, z1, z2, z3, y0, y1]
  exact ⟨rfl, below_set2' (below_set4' HB5.out Hr.out _ _ _ _) (by omega) _ _⟩

set_option maxRecDepth 100000 in
set_option maxHeartbeats 1000000 in
theorem want_end (b nm pl : Nat) (tx : ByteArray) (w : World) (hbl : b < w.heap.size) (hp : Peeks b 6 tx nm pl w) :
    Calls Tryd.prog 37 #[.pointer (some ⟨b, 0, none⟩), .int .i64 6] w fun e w' => e = .returned (.tuple #[.agg #[.int .i64 6, .string tx, .int .i64 nm, .int .i64 pl], faultV 0 0]) ∧ Below w.heap.size w w' := by
  obtain ⟨w1, r, hw1, hr, hh1, hi1, hb1, hr1⟩ := zero_two w
  have HP := Lib.hid hp
  have HB1 := Lib.hid hb1
  have HH1 := Lib.hid hh1
  have HI1 := Lib.hid hi1
  have Hw1 := Lib.hid hw1
  have Hr := Lib.hid hr
  have hwr : w.heap.size ≤ r := by omega
  have hfk := field_kind 6 nm pl tx
  clear hw1 hr hh1 hi1 hb1 hp
  go_enter Tryd.func37, Tryd.ntmps37
  go_upto_region 1 with fail
  rw [Hw1.out, Hr.out]
  clear Hw1
  go_wp2_with fail
  refine (HP.out _ HB1.out).mono ?_
  rintro e w3 ⟨rfl, hb3⟩
  have HB3 := Lib.hid (HB1.out.trans (hb3.mono HB1.out.size))
  have HH3 := Lib.hid ((hb3.block r (by omega)).trans HH1.out)
  have HI3 := Lib.hid ((hb3.block (r + 1) hr1).trans HI1.out)
  have hr3 : r + 1 < w3.heap.size := by have := hb3.size; omega
  have hb3l : b < w3.heap.size := by have := HB3.out.size; omega
  clear hb3
  go_wp2_with fail
  refine (next_stay b tx nm pl w3 hb3l (HP.out.below HB3.out)).mono ?_
  rintro e w5 ⟨rfl, hb5⟩
  have HB5 := Lib.hid (HB3.out.trans (hb5.mono HB3.out.size))
  have hh5 := (hb5.block r (by omega)).trans HH3.out
  have hi5 := (hb5.block (r + 1) hr3).trans HI3.out
  have z0 : w5.cell? ⟨r, 0, none⟩ = some (.int .i64 0) := (Lib.cell_of_heap hh5 _).trans rfl
  have z1 : w5.cell? ⟨r, 1, none⟩ = some (.string ⟨#[]⟩) := (Lib.cell_of_heap hh5 _).trans rfl
  have z2 : w5.cell? ⟨r, 2, none⟩ = some (.int .i64 0) := (Lib.cell_of_heap hh5 _).trans rfl
  have z3 : w5.cell? ⟨r, 3, none⟩ = some (.int .i64 0) := (Lib.cell_of_heap hh5 _).trans rfl
  have y0 : w5.cell? ⟨r + 1, 0, none⟩ = some (.int .i64 0) := (Lib.cell_of_heap hi5 _).trans rfl
  have y1 : w5.cell? ⟨r + 1, 1, none⟩ = some (.int .i64 0) := (Lib.cell_of_heap hi5 _).trans rfl
  have f0 := Lib.frozen_of_heap hh5 0
  have f1 := Lib.frozen_of_heap hh5 1
  have f2 := Lib.frozen_of_heap hh5 2
  have f3 := Lib.frozen_of_heap hh5 3
  have g0 := Lib.frozen_of_heap hi5 0
  have g1 := Lib.frozen_of_heap hi5 1
  clear hb5 hh5 hi5 hfk
  go_wp2_with fail
  refine bodyPost_ret (v := .tuple #[.agg #[.int .i64 6, .string tx, .int .i64 nm, .int .i64 pl], faultV 0 0]) ?_ rfl ?_
  · simp [faultV, results, Tryd.results37, go_sem, z0, z1, z2, z3, y0, y1]
  exact ⟨rfl, below_set2' (below_set4' HB5.out Hr.out _ _ _ _) (by omega) _ _⟩

set_option maxRecDepth 100000 in
set_option maxHeartbeats 1000000 in
theorem want_yes (b g o n c : Nat) (t : Tok) (w : World) (hb : StrAt b g o n c w) (hn : 1 < n) (hnc : n ≤ c) (ht : TkAt w g o t) (hg : g < w.heap.size) (h6 : t.kind ≠ 6) :
    Calls Tryd.prog 37 #[.pointer (some ⟨b, 0, none⟩), .int .i64 t.kind] w fun e w' => e = .returned (.tuple #[.agg #[.int .i64 t.kind, .string t.text, .int .i64 t.num, .int .i64 t.at_], faultV 0 0]) ∧ StrAt b g (o + 4) (n - 1) (c - 1) w' ∧ StW b w w' := by
  obtain ⟨w1, r, hw1, hr, hh1, hi1, hb1, hr1⟩ := zero_two w
  obtain ⟨kd, tx, nm, pl⟩ := t
  have hp := Peeks.of hb (by omega) hnc ht hg
  dsimp only at hp h6 ⊢
  have HP := Lib.hid hp
  have HS := Lib.hid hb
  have HT := Lib.hid ht
  have hbl := hb.lt
  have HB1 := Lib.hid hb1
  have HH1 := Lib.hid hh1
  have HI1 := Lib.hid hi1
  have Hw1 := Lib.hid hw1
  have Hr := Lib.hid hr
  have hwr : w.heap.size ≤ r := by omega
  have hfk := field_kind kd nm pl tx
  clear hw1 hr hh1 hi1 hb1 hp hb ht
  go_enter Tryd.func37, Tryd.ntmps37
  go_upto_region 1 with fail
  rw [Hw1.out, Hr.out]
  clear Hw1
  go_wp2_with fail
  refine (HP.out _ HB1.out).mono ?_
  rintro e w3 ⟨rfl, hb3⟩
  have HB3 := Lib.hid (HB1.out.trans (hb3.mono HB1.out.size))
  have HH3 := Lib.hid ((hb3.block r (by omega)).trans HH1.out)
  have HI3 := Lib.hid ((hb3.block (r + 1) hr1).trans HI1.out)
  have hr3 : r + 1 < w3.heap.size := by have := hb3.size; omega
  have hg3 : g < w3.heap.size := by have := HB3.out.size; omega
  clear hb3
  go_wp2_with fail
  refine (next_go b g o n c ⟨kd, tx, nm, pl⟩ w3 (HS.out.below HB3.out) hn hnc (HT.out.below HB3.out hg) hg3 h6).mono ?_
  rintro e w5 ⟨rfl, hs5, hW5⟩
  rw [show (⟨kd, tx, nm, pl⟩ : Tok).val = .agg #[.int .i64 kd, .string tx, .int .i64 nm, .int .i64 pl] from rfl]
  have HS5 := Lib.hid hs5
  have HW5 := Lib.hid ((StW.of HB3.out (by omega)).trans hW5)
  have hh5 := (hW5.oth r (by omega) (by omega)).trans HH3.out
  have hi5 := (hW5.oth (r + 1) hr3 (by omega)).trans HI3.out
  have z0 : w5.cell? ⟨r, 0, none⟩ = some (.int .i64 0) := (Lib.cell_of_heap hh5 _).trans rfl
  have z1 : w5.cell? ⟨r, 1, none⟩ = some (.string ⟨#[]⟩) := (Lib.cell_of_heap hh5 _).trans rfl
  have z2 : w5.cell? ⟨r, 2, none⟩ = some (.int .i64 0) := (Lib.cell_of_heap hh5 _).trans rfl
  have z3 : w5.cell? ⟨r, 3, none⟩ = some (.int .i64 0) := (Lib.cell_of_heap hh5 _).trans rfl
  have y0 : w5.cell? ⟨r + 1, 0, none⟩ = some (.int .i64 0) := (Lib.cell_of_heap hi5 _).trans rfl
  have y1 : w5.cell? ⟨r + 1, 1, none⟩ = some (.int .i64 0) := (Lib.cell_of_heap hi5 _).trans rfl
  have f0 := Lib.frozen_of_heap hh5 0
  have f1 := Lib.frozen_of_heap hh5 1
  have f2 := Lib.frozen_of_heap hh5 2
  have f3 := Lib.frozen_of_heap hh5 3
  have g0 := Lib.frozen_of_heap hi5 0
  have g1 := Lib.frozen_of_heap hi5 1
  clear hs5 hW5 hh5 hi5 hfk
  go_wp2_with fail
  refine bodyPost_ret (v := .tuple #[.agg #[.int .i64 kd, .string tx, .int .i64 nm, .int .i64 pl], faultV 0 0]) ?_ rfl ?_
  · simp [faultV, results, Tryd.results37, go_sem, z0, z1, z2, z3, y0, y1]
  refine ⟨rfl, ?_, (HW5.out.set4 hbl hwr _ _ _ _).set2 hbl (by omega) _ _⟩
  exact (((((HS5.out.set (by omega) _ _).set (by omega) _ _).set (by omega) _ _).set (by omega) _ _).set (by omega) _ _).set (by omega) _ _
end Go.Proofs.YtaijdpckkobofaaDoor
