/- THE FIXED PROGRAM OF LAYER 18'S awake: checked, encoded, told in lines. -/
import Derived.Test.YtaijdpckkobofaaDoorNum
import Derived.Test.YtaijdpckkobofaaDoorOps
namespace Go.Proofs.YtaijdpckkobofaaDoor
open Go.RowKit
set_option linter.unusedVariables false

def prog0 (g : Nat) : Value := .agg #[.slice (some ⟨g, 0, none⟩) 1 1, .slice none 0 0, .slice none 0 0, .slice none 0 0, .int .i64 0, .int .i64 1, .int .i64 0, .int .i64 0]

theorem within_any (n lo hi : Int) (w : World) :
    Calls Tryd.prog 121 #[.int .i64 n, .int .i64 lo, .int .i64 hi] w fun e w' => e = .returned (.bool (decide (lo ≤ n ∧ n ≤ hi))) ∧ w = w' := by
  by_cases h1 : lo ≤ n
  · by_cases h2 : n ≤ hi
    · go_enter Tryd.func121, Tryd.ntmps121
      go_wp2
      go_ret
      exact ⟨ret_bool (by simp; omega), rfl⟩
    · go_enter Tryd.func121, Tryd.ntmps121
      go_wp2
      go_ret
      exact ⟨ret_bool (by simp; omega), rfl⟩
  · go_enter Tryd.func121, Tryd.ntmps121
    go_wp2
    go_ret
    exact ⟨ret_bool (by simp; omega), rfl⟩

theorem instr0 (w : World) :
    Calls Tryd.prog 94 #[.agg #[.int .u8 1, .int .i64 (-1), .int .i64 0]] w fun e w' => e = .returned (.bool true) ∧ Below w.heap.size w w' := by
  go_enter Tryd.func94, Tryd.ntmps94
  go_wp2_with (first | (go_at_call 63; refine (uses_any _ _ (by omega) (by omega)).mono ?_; rintro e w' ⟨rfl, rfl⟩) | (go_at_call 121; refine (within_any _ _ _ _).mono ?_; rintro e w' ⟨rfl, rfl⟩))
  all_goals
    go_ret
    exact ⟨rfl, (Below.refl _ _).alloc (Nat.le_refl _) _⟩

theorem limits0 (g : Nat) (w : World) :
    Calls Tryd.prog 97 #[prog0 g] w fun e w' => e = .returned (.bool true) ∧ Below w.heap.size w w' := by
  unfold prog0
  go_enter Tryd.func97, Tryd.ntmps97
  go_wp2_with (first | (go_at_call 121; refine (within_any _ _ _ _).mono ?_; rintro e w' ⟨rfl, rfl⟩))
  all_goals
    go_ret
    exact ⟨rfl, (Below.refl _ _).alloc (Nat.le_refl _) _⟩

theorem check0 (g : Nat) (w : World) (c0 : w.cell? ⟨g, 0, none⟩ = some (.int .u8 1)) (c1 : w.cell? ⟨g, 1, none⟩ = some (.int .i64 (-1))) (c2 : w.cell? ⟨g, 2, none⟩ = some (.int .i64 0)) (hg : g < w.heap.size) :
    Calls Tryd.prog 53 #[prog0 g] w fun e w' => e = .returned (.int .i64 0) ∧ Below w.heap.size w w' := by
  unfold prog0
  go_enter Tryd.func53, Tryd.ntmps53
  go_wp2
  refine wp_loop_rounds 2 ?_
  rw [rounds_succ]
  go_wp2_with fail
  refine (instr0 _).mono ?_
  rintro e w1 ⟨rfl, hb1⟩
  obtain ⟨hc1, hf1⟩ := bcell hb1
  go_wp2_with fail
  rw [rounds_succ]
  go_wp2_with fail
  refine wp_loop_rounds 1 ?_
  rw [rounds_succ]
  go_wp2_with fail
  refine wp_loop_rounds 1 ?_
  rw [rounds_succ]
  go_wp2_with fail
  refine wp_loop_rounds 1 ?_
  rw [rounds_succ]
  go_wp2_with fail
  refine (limits0 g _).mono ?_
  rintro e w2 ⟨rfl, hb2⟩
  go_wp2_with fail
  go_ret
  refine ⟨rfl, ?_⟩
  exact ((((Below.refl _ _).alloc (Nat.le_refl _) _).alloc (by simp) _).trans (hb1.mono (by simp; omega))).trans (hb2.mono (by have := hb1.size; simp at this; omega))

theorem ownsRow_base {w : World} {B B' : Nat} {e : TypeId} {size : Nat} {v : Value} {n : Nat} {xs : List Value} (hB : B' ≤ B) (h : w.ownsRow B e size v n xs) : w.ownsRow B' e size v n xs := by
  obtain ⟨h1, h2⟩ := h
  refine ⟨h1, ?_⟩
  rcases h2 with h2 | ⟨g, cap, cur, hv, hg, r⟩
  · exact .inl h2
  · exact .inr ⟨g, cap, cur, hv, Nat.le_trans hB hg, r⟩

def enc0 : List Value := Lib.byteCells [115, 104, 108, 49] ++ [1, 0, 0, 0, 0, 1, 0].flatMap (numVals 2) ++ [0].flatMap (numVals 4) ++ [.int .u8 1] ++ [-1].flatMap (numVals 4) ++ [0].flatMap (numVals 2)

set_option maxHeartbeats 1000000 in
theorem encode0 (g : Nat) (w : World) (c0 : w.cell? ⟨g, 0, none⟩ = some (.int .u8 1)) (c1 : w.cell? ⟨g, 1, none⟩ = some (.int .i64 (-1))) (c2 : w.cell? ⟨g, 2, none⟩ = some (.int .i64 0)) (hg : g < w.heap.size) :
    Calls Tryd.prog 17 #[prog0 g] w fun e w' => ∃ v, e = .returned (.tuple #[v, .int .i64 0]) ∧ w'.ownsRow w.heap.size 5 1 v 29 enc0 ∧ Below w.heap.size w w' := by
  have hch := fun W => check0 g W
  unfold prog0 at hch ⊢
  have Hch := Lib.hid hch
  clear hch
  go_enter Tryd.func17, Tryd.ntmps17
  go_wp2_with fail
  refine (Hch.out _ ?_ ?_ ?_ ?_).mono ?_
  · simp [go_sem, c0, hg]
  · simp [go_sem, c1, hg]
  · simp [go_sem, c2, hg]
  · simp; omega
  rintro e w1 ⟨rfl, hb1⟩
  obtain ⟨hc1, hf1⟩ := bcell hb1
  go_wp2_with fail
  have hz1 : w.heap.size < w1.heap.size := by have := hb1.size; simp at this; omega
  have hg1 : g < w1.heap.size := by omega
  have hg2 : g < w.heap.size + 1 := by omega
  refine (bWriteString _ _ _ _ _ (fresh_buf w1) (by simp) bytesOk.nil (by decide)).mono ?_
  rintro e w2 ⟨rfl, hb2, hw2⟩
  have hk2 := hw2.cellB
  have hs2 := hw2.size
  simp only [World.size_alloc] at hs2
  go_wp2_with fail
  refine (number_new _ _ 2 _ [1, 0, 0, 0, 0, 1, 0] _ _ _ rfl rfl hb2 (by omega) (bytesOk.nil.append (bytesOk.cells _)) (by omega) (by omega) (by decide) (by decide)).mono ?_
  rintro e w3 ⟨rfl, hb3, hw3⟩
  have hk3 := hw3.cellB
  have hs3 := hw3.size
  go_wp2_with fail
  refine (number_new _ _ 4 _ [0] _ _ _ rfl rfl hb3 (by omega) ((bytesOk.nil.append (bytesOk.cells _)).append (flat_ok _ _)) (by omega) (by omega) (by decide) (by decide)).mono ?_
  rintro e w4 ⟨rfl, hb4, hw4⟩
  have hk4 := hw4.cellB
  have hs4 := hw4.size
  go_wp2_with fail
  refine wp_loop_rounds 2 ?_
  rw [rounds_succ]
  go_wp2_with fail
  refine (bWriteByte _ _ _ _ _ (hb4.alloc _) (by simp; omega) (((bytesOk.nil.append (bytesOk.cells _)).append (flat_ok _ _)).append (flat_ok _ _)) (by decide)).mono ?_
  rintro e w5 ⟨rfl, hb5, hw5⟩
  have hs5 := hw5.size
  simp only [World.size_alloc] at hs5
  have hi5 := hw5.keepCell (heap_new _ _) (by omega) (by decide)
  have hh5 := hw5.keep (heap_new _ _) (by omega) (by decide)
  go_wp2_with fail
  refine (number_new _ _ 4 _ [-1] _ _ _ rfl rfl hb5 (by omega) ((((bytesOk.nil.append (bytesOk.cells _)).append (flat_ok _ _)).append (flat_ok _ _)).append (bytesOk.byte _)) (by omega) (by omega) (by decide) (by decide)).mono ?_
  rintro e w6 ⟨rfl, hb6, hw6⟩
  have hs6 := hw6.size
  have hi6 := hw6.keepCell hh5 (by omega) (by decide)
  go_wp2_with fail
  refine (number_new _ _ 2 _ [0] _ _ _ rfl rfl hb6 (by omega) (((((bytesOk.nil.append (bytesOk.cells _)).append (flat_ok _ _)).append (flat_ok _ _)).append (bytesOk.byte _)).append (flat_ok _ _)) (by omega) (by omega) (by decide) (by decide)).mono ?_
  rintro e w7 ⟨rfl, hb7, hw7⟩
  have hs7 := hw7.size
  have hall := ((((hw2.trans hw3).trans hw4).trans (((Wr.refl _ _ _).alloc (by omega) _).trans hw5)).trans hw6).trans hw7
  have hk7 : ∀ k o, k < w1.heap.size → w7.cell? ⟨k, o, none⟩ = w1.cell? ⟨k, o, none⟩ := fun k o hk => (hall.cellB k o hk).trans (Below.cell (B := w1.heap.size) ((Below.refl _ _).alloc (Nat.le_refl _) _) (p := ⟨k, o, none⟩) hk)
  clear hk2 hk3 hk4 hi5 hi6 hh5
  go_wp2_with fail
  rw [rounds_succ]
  go_wp2_with fail
  refine wp_loop_rounds 1 ?_
  rw [rounds_succ]
  go_wp2_with fail
  refine wp_loop_rounds 1 ?_
  rw [rounds_succ]
  go_wp2_with fail
  refine wp_loop_rounds 1 ?_
  rw [rounds_succ]
  go_wp2_with fail
  refine (bBytes _ _ _ _ hb7).mono ?_
  rintro e w8 ⟨v, rfl, hown, n, rfl⟩
  go_wp2_with fail
  go_ret2
  refine ⟨v, rfl, ?_, ?_⟩
  · exact ownsRow_base (w := w7.drewN n) (by have := hb1.size; simp at this; omega) hown
  · have h1 : Below w.heap.size w w1 := ((Below.refl _ _).alloc (Nat.le_refl _) _).trans (hb1.mono (by simp))
    have h2 : Below w1.heap.size w1 w7 := ((Below.refl _ _).alloc (Nat.le_refl _) _).trans hall.below
    exact below_drewN (h1.trans (h2.mono (by omega))) n
end Go.Proofs.YtaijdpckkobofaaDoor
