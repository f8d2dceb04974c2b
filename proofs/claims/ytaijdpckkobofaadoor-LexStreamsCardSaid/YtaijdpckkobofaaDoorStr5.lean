/- lex.NewStream. -/
import Derived.Test.YtaijdpckkobofaaDoorStr4
import Derived.Test.YtaijdpckkobofaaDoorLaw21c
namespace Go.Proofs.YtaijdpckkobofaaDoor
open Go.RowKit
set_option linter.unusedVariables false

def StreamOut (w : World) (r : (Nat × Nat) ⊕ List Tok) (e : Ending) (w' : World) : Prop :=
  Below w.heap.size w w' ∧ match r with
  | .inl (x, a) => e = .returned (.tuple #[.pointer none, faultV x a])
  | .inr L => ∃ b g cap, e = .returned (.tuple #[.pointer (some ⟨b, 0, none⟩), faultV 0 0]) ∧ w.heap.size ≤ b ∧ w.heap.size ≤ g ∧ g < b ∧ L.length ≤ cap ∧ StrAt b g 0 L.length cap w' ∧ TokAt w' g 0 L

theorem TokAt.stw {w w' : World} {b g o : Nat} {l : List Tok} (h : TokAt w g o l) (k : StW b w w') (hg : g < w.heap.size) (hb : g ≠ b) : TokAt w' g o l := by
  intro i t ht
  obtain ⟨h0, h1, h2, h3⟩ := h i t ht
  exact ⟨(k.cell hg hb).trans h0, (k.cell hg hb).trans h1, (k.cell hg hb).trans h2, (k.cell hg hb).trans h3⟩

theorem fault_ne {x a : Nat} {s : ByteArray} (h : scanAll s = .inl (x, a)) : ((x : Int) != 0) = true := by
  have := scanAll_fault h
  simp; omega

set_option maxRecDepth 100000 in
set_option maxHeartbeats 1000000 in
theorem newStream_any (s : ByteArray) (w : World) (hg : LexW w) :
    Calls Tryd.prog 34 #[.string s] w (StreamOut w (scanAll s)) := by
  obtain ⟨w1, r, hw1, hr, hh1, hb1, hr1⟩ := zero_fault w
  have HS := Lib.hid (scan_any s w1 (hg.below hb1))
  have HB1 := Lib.hid hb1
  have HH1 := Lib.hid hh1
  have Hw1 := Lib.hid hw1
  have Hr := Lib.hid hr
  have hwr : w.heap.size ≤ r := by omega
  clear hw1 hr hh1 hb1 hg
  go_enter Tryd.func34, Tryd.ntmps34
  go_upto_region 1 with fail
  rw [Hw1.out, Hr.out]
  clear Hw1
  go_wp2_with fail
  refine HS.out.mono ?_
  rintro e w3 ho
  clear HS
  cases hres : scanAll s with
  | inl p =>
    obtain ⟨x, a⟩ := p
    rw [hres] at ho
    obtain ⟨hb3, rfl⟩ := ho
    have hxa := fault_ne hres
    have hh3 := (hb3.block r hr1).trans HH1.out
    have hr3 : r < w3.heap.size := by have := hb3.size; omega
    obtain ⟨w4, p, hw4, hp⟩ : ∃ w4 p, w3.alloc (.cells #[.int .i64 x, .int .i64 a] 71) = w4 ∧ w3.heap.size = p := ⟨_, _, rfl, rfl⟩
    have hb4 : Below w3.heap.size w3 w4 := by rw [← hw4]; exact (Below.refl _ _).alloc (Nat.le_refl _) _
    have hp4 : w4.heap[p]? = some (.cells #[.int .i64 x, .int .i64 a] 71 (0, 0)) := by rw [← hw4, ← hp]; exact heap_new _ _
    have hh4 := (hb4.block r hr3).trans hh3
    have z0 : w4.cell? ⟨r, 0, none⟩ = some (.int .i64 0) := (Lib.cell_of_heap hh4 _).trans rfl
    have z1 : w4.cell? ⟨r, 1, none⟩ = some (.int .i64 0) := (Lib.cell_of_heap hh4 _).trans rfl
    have p0 : w4.cell? ⟨p, 0, none⟩ = some (.int .i64 x) := (Lib.cell_of_heap hp4 _).trans rfl
    have p1 : w4.cell? ⟨p, 1, none⟩ = some (.int .i64 a) := (Lib.cell_of_heap hp4 _).trans rfl
    have f0 := Lib.frozen_of_heap hh4 0
    have f1 := Lib.frozen_of_heap hh4 1
    have HB3 := Lib.hid (HB1.out.trans (hb3.mono HB1.out.size))
    have HB4 := Lib.hid (HB3.out.trans (hb4.mono HB3.out.size))
    have hrp : r < p := by omega
    clear hb3 hh3 hb4 hp4 hh4
    go_upto_region 3 with fail
    clear hw4 hp
    go_region
    all_goals
      go_wp2_with fail
      refine bodyPost_ret (v := .tuple #[.pointer none, faultV x a]) ?_ rfl ?_
      · simp [faultV, results, Tryd.results34, go_sem, z0, z1]
      first | rw [hres] | skip
      refine ⟨?_, rfl⟩
      first | exact below_set2' HB4.out.drew hwr _ _ | exact (below_set2' HB4.out hwr _ _).drew
  | inr L =>
    rw [hres] at ho
    obtain ⟨hb3, v, rfl, hown⟩ := ho
    obtain ⟨h8, l0, hL, _⟩ := scanAll_toks hres
    have hL0 : 0 < L.length := by rw [hL]; simp
    obtain ⟨g, cap, rfl, hgB, hgl, htok, hcap⟩ := TokAt_own hown hL0
    have hh3 := (hb3.block r hr1).trans HH1.out
    have hr3 : r < w3.heap.size := by have := hb3.size; omega
    obtain ⟨w4, p, hw4, hp⟩ : ∃ w4 p, w3.alloc (.cells #[.int .i64 0, .int .i64 0] 71) = w4 ∧ w3.heap.size = p := ⟨_, _, rfl, rfl⟩
    have hb4 : Below w3.heap.size w3 w4 := by rw [← hw4]; exact (Below.refl _ _).alloc (Nat.le_refl _) _
    have hp4 : w4.heap[p]? = some (.cells #[.int .i64 0, .int .i64 0] 71 (0, 0)) := by rw [← hw4, ← hp]; exact heap_new _ _
    have hh4 := (hb4.block r hr3).trans hh3
    have z0 : w4.cell? ⟨r, 0, none⟩ = some (.int .i64 0) := (Lib.cell_of_heap hh4 _).trans rfl
    have z1 : w4.cell? ⟨r, 1, none⟩ = some (.int .i64 0) := (Lib.cell_of_heap hh4 _).trans rfl
    have p0 : w4.cell? ⟨p, 0, none⟩ = some (.int .i64 0) := (Lib.cell_of_heap hp4 _).trans rfl
    have p1 : w4.cell? ⟨p, 1, none⟩ = some (.int .i64 0) := (Lib.cell_of_heap hp4 _).trans rfl
    have f0 := Lib.frozen_of_heap hh4 0
    have f1 := Lib.frozen_of_heap hh4 1
    have hpl : p < w4.heap.size := by rw [← hw4, ← hp, World.size_alloc]; omega
    have hrl : r < w4.heap.size := by omega
    have HH4 := Lib.hid hh4
    have HB3 := Lib.hid (HB1.out.trans (hb3.mono HB1.out.size))
    have HB4 := Lib.hid (HB3.out.trans (hb4.mono HB3.out.size))
    have hrp : r < p := by omega
    have HT4 := Lib.hid (htok.below hb4 hgl)
    have hg4 : g < w4.heap.size := by have := hb4.size; omega
    have hgw : w.heap.size ≤ g := by have := HB1.out.size; omega
    have hgr : g ≠ r := by omega
    have Hw4 := Lib.hid hw4
    have Hp := Lib.hid hp
    clear hb3 hh3 hb4 hp4 hh4 hown htok hL hw4 hp
    go_upto_region 4 with fail
    rw [Hw4.out, Hp.out]
    clear Hw4 Hp
    go_region
    all_goals
      go_wp2_with fail
      obtain ⟨w5, hw5⟩ : ∃ w5, (w4.setCell ⟨r, 0, none⟩ (.int .i64 0)).setCell ⟨r, 1, none⟩ (.int .i64 0) = w5 := ⟨_, rfl⟩
      have hW5 : StW r w4 w5 := by rw [← hw5]; exact ((StW.of (Below.refl _ _) (by omega)).set 0 _).set 1 _
      have hh5 : w5.heap[r]? = some (.cells #[.int .i64 0, .int .i64 0] 71 (0, 0)) := by
        have := HH4.out
        rw [← hw5]; simp [World.setCell, Array.getElem?_modify, this]
      have hs5 : w4.heap.size = w5.heap.size := by rw [← hw5]; simp [World.setCell]
      have hB5 : Below w.heap.size w w5 := by rw [← hw5]; exact below_set2' HB4.out hwr _ _
      have hT5 : TokAt w5 g 0 L := HT4.out.stw hW5 hg4 hgr
      rw [hw5, hs5]
      clear hw5 hW5
      obtain ⟨w6, hw6⟩ : ∃ w6, w5.alloc (.cells #[.slice (some ⟨g, 0, none⟩) L.length cap] 80) = w6 := ⟨_, rfl⟩
      have hb6 : Below w5.heap.size w5 w6 := by rw [← hw6]; exact (Below.refl _ _).alloc (Nat.le_refl _) _
      have hS6 : StrAt w5.heap.size g 0 L.length cap w6 := by rw [← hw6]; exact heap_new _ _
      have hh6 := (hb6.block r (by omega)).trans hh5
      rw [hw6]
      have y0 : w6.drew.cell? ⟨r, 0, none⟩ = some (.int .i64 0) := (Lib.cell_of_heap hh6 _).trans rfl
      have y1 : w6.drew.cell? ⟨r, 1, none⟩ = some (.int .i64 0) := (Lib.cell_of_heap hh6 _).trans rfl
      have y2 : w6.cell? ⟨r, 0, none⟩ = some (.int .i64 0) := y0
      have y3 : w6.cell? ⟨r, 1, none⟩ = some (.int .i64 0) := y1
      refine bodyPost_ret (v := .tuple #[.pointer (some ⟨w5.heap.size, 0, none⟩), faultV 0 0]) ?_ rfl ?_
      · simp [faultV, results, Tryd.results34, go_sem, y0, y1]
      first | rw [hres] | skip
      have hsw := hB5.size
      have hT6 : TokAt w6 g 0 L := hT5.below hb6 (by omega)
      exact ⟨(hB5.trans (hb6.mono hsw)).drew, w5.heap.size, g, cap, rfl, hsw, hgw, by omega, hcap, hS6, hT6⟩
end Go.Proofs.YtaijdpckkobofaaDoor
