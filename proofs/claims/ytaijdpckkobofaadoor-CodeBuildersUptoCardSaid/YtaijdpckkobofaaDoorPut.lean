/- codec.Put of eight bytes, the greatest first. -/
import Derived.Test.YtaijdpckkobofaaDoorKit
namespace Go.Proofs.YtaijdpckkobofaaDoor
open Go.RowKit
set_option linter.unusedVariables false

theorem shape8 (w : World) :
    Calls Tryd.prog 127 #[.int .i64 2, .int .i64 8] w fun e w' => e = .returned (.int .i64 0) ∧ w = w' := by
  go_enter Tryd.func127, Tryd.ntmps127
  go_wp2
  go_ret
  exact ⟨rfl, rfl⟩

set_option maxHeartbeats 1000000 in
theorem reverse8 (x0 x1 x2 x3 x4 x5 x6 x7 : Int) (w : World) :
    Calls Tryd.prog 128 #[.slice (some ⟨w.heap.size, 0, none⟩) 8 8] (w.alloc (.cells #[.int .u8 x0, .int .u8 x1, .int .u8 x2, .int .u8 x3, .int .u8 x4, .int .u8 x5, .int .u8 x6, .int .u8 x7] 5)) fun e w' => e = .returned (.tuple #[]) ∧
      ∃ m, w' = (w.alloc (.cells #[.int .u8 x7, .int .u8 x6, .int .u8 x5, .int .u8 x4, .int .u8 x3, .int .u8 x2, .int .u8 x1, .int .u8 x0] 5)).drewN m := by
  go_enter Tryd.func128, Tryd.ntmps128
  go_wp2
  refine wp_loop_rounds 5 ?_
  rw [rounds_succ]
  go_wp2
  go_region
  go_wp2
  rw [rounds_succ]
  go_wp2
  go_region
  go_wp2
  rw [rounds_succ]
  go_wp2
  go_region
  go_wp2
  rw [rounds_succ]
  go_wp2
  go_region
  go_wp2
  rw [rounds_succ]
  go_wp2
  go_end0
  exact ⟨rfl, 4, rfl⟩

/-- the eight bytes of a number, the greatest first -/
def beVals (u : Int) : List Value := [.int .u8 (u / 72057594037927936), .int .u8 (u / 281474976710656 % 256), .int .u8 (u / 1099511627776 % 256), .int .u8 (u / 4294967296 % 256), .int .u8 (u / 16777216 % 256), .int .u8 (u / 65536 % 256), .int .u8 (u / 256 % 256), .int .u8 (u % 256)]

set_option maxHeartbeats 1000000 in
theorem put8 (u : Int) (w : World) (h0 : 0 ≤ u) (hu : u ≤ 18446744073709551615) :
    Calls Tryd.prog 106 #[.int .i64 2, .int .i64 8, .int .u64 u] w fun e w' => e = .returned (.tuple #[.slice (some ⟨w.heap.size, 0, none⟩) 8 8, .int .i64 0]) ∧ ∃ m, w' = (w.alloc (.cells (beVals u).toArray 5)).drewN m := by
  obtain ⟨n, rfl⟩ := Int.eq_ofNat_of_zero_le h0
  have hmk : ∀ w, (Instr.makeSlice 35 (.int .i64 8) (.int .i64 8)).run Tryd.prog w = .ok (.slice (some ⟨w.heap.size, 0, none⟩) 8 8) (w.alloc (.cells #[.int .u8 0, .int .u8 0, .int .u8 0, .int .u8 0, .int .u8 0, .int .u8 0, .int .u8 0, .int .u8 0] 5)) := fun _ => by kernel_rfl
  go_enter Tryd.func106, Tryd.ntmps106
  go_wp2_with (go_at_call 127; refine (shape8 _).mono ?_; rintro e w' ⟨rfl, rfl⟩)
  refine wp_loop_rounds 9 ?_
  repeat (rw [rounds_succ]; go_wp2_with fail)
  refine (reverse8 _ _ _ _ _ _ _ _ _).mono ?_
  rintro e w' ⟨rfl, m, rfl⟩
  go_wp2_with fail
  go_ret2
  exact ⟨rfl, m, rfl⟩
end Go.Proofs.YtaijdpckkobofaaDoor
