/- strconv.FormatUint of a number of three hex digits. -/
import Derived.Test.YtaijdpckkobofaaDoorBytes1
import Derived.Test.YtaijdpckkobofaaDoorLexQuoteDef
import Derived.Test.YtaijdpckkobofaaDoorLex1
namespace Go.Proofs.YtaijdpckkobofaaDoor
open Go.RowKit
set_option linter.unusedVariables false

theorem pow2_16 (w : World) : Calls Tryd.prog 153 #[.int .i64 16] w fun e w' => e = .returned (.bool true) ∧ w = w' := by
  have hb : bits BinOp.and IntKind.i64 16 15 = 0 := by decide
  go_enter Tryd.func153, Tryd.ntmps153
  go_wp2_with fail
  go_ret
  exact ⟨rfl, rfl⟩

theorem tz64_16 (w : World) (ht : w.cell? ⟨6, 15, none⟩ = some (.int .u8 4)) : Calls Tryd.prog 168 #[.int .u64 16] w fun e w' => e = .returned (.int .i64 4) ∧ w = w' := by
  have hoff : (IntKind.u64.wrap (bits BinOp.and IntKind.u64 16 (IntKind.u64.wrap (-16)) * 285870213051353865) / 288230376151711744).toNat = 15 := by decide +kernel
  go_enter Tryd.func168, Tryd.ntmps168
  go_wp2_with fail
  go_ret
  exact ⟨rfl, rfl⟩

theorem tz_16 (w : World) (ht : w.cell? ⟨6, 15, none⟩ = some (.int .u8 4)) : Calls Tryd.prog 154 #[.int .u64 16] w fun e w' => e = .returned (.int .i64 4) ∧ w = w' := by
  have HT := Lib.hid (tz64_16 w ht)
  clear ht
  go_enter Tryd.func154, Tryd.ntmps154
  go_wp2_with fail
  refine HT.out.mono ?_
  rintro e w' ⟨rfl, rfl⟩
  go_wp2_with fail
  go_ret
  exact ⟨rfl, rfl⟩

def digs : ByteArray := ⟨#[48, 49, 50, 51, 52, 53, 54, 55, 56, 57, 97, 98, 99, 100, 101, 102, 103, 104, 105, 106, 107, 108, 109, 110, 111, 112, 113, 114, 115, 116, 117, 118, 119, 120, 121, 122]⟩
theorem digs_at : ∀ d : Fin 16, byteAt digs d.val = (hexd d.val).toNat := by decide

theorem and_lo : ∀ c : Fin 256, bits BinOp.and IntKind.u64 (((c.val : Nat) : Int) + 256) 15 = ((c.val % 16 : Nat) : Int) := by decide +kernel
theorem and_hi : ∀ d : Fin 16, bits BinOp.and IntKind.u64 (((d.val : Nat) : Int) + 16) 15 = ((d.val : Nat) : Int) := by decide +kernel

theorem cells_three (w : World) (Z : Array Value) (t : TypeId) (hZ : Z.size = 65) (a b c : Value) :
    (w.alloc (.cells (((Z.setIfInBounds 64 a).setIfInBounds 63 b).setIfInBounds 62 c) t)).cell? ⟨w.heap.size, 62, none⟩ = some c ∧
    (w.alloc (.cells (((Z.setIfInBounds 64 a).setIfInBounds 63 b).setIfInBounds 62 c) t)).cell? ⟨w.heap.size, 63, none⟩ = some b ∧
    (w.alloc (.cells (((Z.setIfInBounds 64 a).setIfInBounds 63 b).setIfInBounds 62 c) t)).cell? ⟨w.heap.size, 64, none⟩ = some a := by
  rw [Lib.cell_of_heap (heap_new _ _), Lib.cell_of_heap (heap_new _ _), Lib.cell_of_heap (heap_new _ _)]
  simp [hZ]
theorem zero65 : (Tryd.zeroCells214).size = 65 := by kernel_rfl

theorem conv_three (g cap n1 n2 : Nat) (a b : UInt8) (h1 : n1 = a.toNat) (h2 : n2 = b.toNat) (W : World) (c0 : W.cell? ⟨g, 62, none⟩ = some (.int .u8 49)) (c1 : W.cell? ⟨g, 63, none⟩ = some (.int .u8 n1)) (c2 : W.cell? ⟨g, 64, none⟩ = some (.int .u8 n2)) :
    (convert 35 9 (.slice (some ⟨g, 62, none⟩) 3 cap)).run Tryd.prog W = .ok (.string ⟨#[49, a, b]⟩) W := by
  subst h1 h2
  refine run_convert_bytes_back (P := Tryd.prog) W 35 9 5 ⟨g, 62, none⟩ cap [49, a, b] Tryd.underlying35 Tryd.underlying5 Tryd.underlying9 ?_
  intro j hj
  simp only [List.length_cons, List.length_nil] at hj
  match j, hj with
  | 0, _ => simpa [add_plain] using c0
  | 1, _ => simpa [add_plain] using c1
  | 2, _ => simpa [add_plain] using c2

set_option maxRecDepth 100000 in
set_option maxHeartbeats 2000000 in
theorem bits16 (c : Nat) (x : Int) (hc : c < 256) (hx : x = (c : Int) + 256) (w : World) (ht : w.cell? ⟨6, 15, none⟩ = some (.int .u8 4)) :
    Calls Tryd.prog 140 #[.slice none 0 0, .int .u64 x, .int .i64 16, .bool false, .bool false] w fun e w' => e = .returned (.tuple #[.slice none 0 0, .string ⟨#[49, hexd (c / 16), hexd (c % 16)]⟩]) ∧ Below w.heap.size w w' := by
  obtain rfl := hx
  have HP := Lib.hid (pow2_16)
  have HZ : Hid (∀ W : World, W.cell? ⟨6, 15, none⟩ = some (.int .u8 4) → Calls Tryd.prog 154 #[.int .u64 16] W fun e w' => e = .returned (.int .i64 4) ∧ W = w') := Lib.hid fun W h => tz_16 W h
  have hlt := World.block_lt_of_cell? w _ ht
  have hb1 := and_lo ⟨c, hc⟩
  simp only at hb1
  have hlo : c % 16 < 16 := Nat.mod_lt _ (by omega)
  have hhi : c / 16 < 16 := by omega
  have hy : ((c : Int) + 256) / 16 = ((c / 16 : Nat) : Int) + 16 := by omega
  have hb2 := and_hi ⟨c / 16, hhi⟩
  simp only at hb2
  have d1 := digs_at ⟨c % 16, hlo⟩
  have d2 := digs_at ⟨c / 16, hhi⟩
  simp only at d1 d2
  generalize c % 16 = lo at *
  generalize c / 16 = hi at *
  have hz : ((hi : Int) + 16) / 16 = 1 := by omega
  obtain ⟨n1, hn1, e1, _⟩ := byteAt_some (s := ⟨#[48, 49, 50, 51, 52, 53, 54, 55, 56, 57, 97, 98, 99, 100, 101, 102, 103, 104, 105, 106, 107, 108, 109, 110, 111, 112, 113, 114, 115, 116, 117, 118, 119, 120, 121, 122]⟩) (i := lo) (show lo < 36 by omega)
  obtain ⟨n2, hn2, e2, _⟩ := byteAt_some (s := ⟨#[48, 49, 50, 51, 52, 53, 54, 55, 56, 57, 97, 98, 99, 100, 101, 102, 103, 104, 105, 106, 107, 108, 109, 110, 111, 112, 113, 114, 115, 116, 117, 118, 119, 120, 121, 122]⟩) (i := hi) (show hi < 36 by omega)
  have hcv := fun g cap W => conv_three g cap n2 n1 (hexd hi) (hexd lo) (e2.symm.trans d2) (e1.symm.trans d1) W
  clear d1 d2 e1 e2
  have hd1 : ((⟨#[48, 49, 50, 51, 52, 53, 54, 55, 56, 57, 97, 98, 99, 100, 101, 102, 103, 104, 105, 106, 107, 108, 109, 110, 111, 112, 113, 114, 115, 116, 117, 118, 119, 120, 121, 122]⟩ : ByteArray)[1]'(by decide)).toNat = 49 := rfl
  have hlo0 : (lo : Int) < 36 := by omega
  have hhi0 : (hi : Int) < 36 := by omega
  go_enter Tryd.func140, Tryd.ntmps140
  go_wp2_with fail
  refine (HP.out _).mono ?_
  rintro e w1 ⟨rfl, rfl⟩
  go_wp2_with fail
  refine (HZ.out _ ?_).mono ?_
  · exact ((Below.refl w.heap.size w).alloc (Nat.le_refl _) _).cell (p := ⟨6, 15, none⟩) hlt |>.trans ht
  rintro e w1 ⟨rfl, rfl⟩
  go_wp2_with fail
  refine wp_loop_rounds 3 ?_
  rw [rounds_succ]
  go_wp2_with fail
  rw [rounds_succ]
  go_wp2_with fail
  rw [rounds_succ]
  go_wp2_with fail
  go_ret2
  exact ⟨rfl, (Below.refl _ _).alloc (Nat.le_refl _) _⟩

set_option maxRecDepth 100000 in
theorem formatUint16 (c : Nat) (x : Int) (hc : c < 256) (hx : x = (c : Int) + 256) (w : World) (ht : w.cell? ⟨6, 15, none⟩ = some (.int .u8 4)) :
    Calls Tryd.prog 70 #[.int .u64 x, .int .i64 16] w fun e w' => e = .returned (.string ⟨#[49, hexd (c / 16), hexd (c % 16)]⟩) ∧ Below w.heap.size w w' := by
  have H : Hid (Calls Tryd.prog 116 #[.int .u64 x, .int .i64 16] w fun e w' => e = .returned (.string ⟨#[49, hexd (c / 16), hexd (c % 16)]⟩) ∧ Below w.heap.size w w') := by
    have HB := Lib.hid (bits16 c x hc hx w ht)
    clear hx ht
    generalize hexd (c / 16) = a at *
    generalize hexd (c % 16) = b at *
    show Calls _ _ _ _ _
    go_enter Tryd.func116, Tryd.ntmps116
    go_wp2_with fail
    refine HB.out.mono ?_
    rintro e w' ⟨rfl, hb⟩
    go_wp2_with fail
    go_ret
    exact ⟨rfl, hb⟩
  clear hx ht
  generalize hexd (c / 16) = a at *
  generalize hexd (c % 16) = b at *
  go_enter Tryd.func70, Tryd.ntmps70
  go_wp2_with fail
  refine H.out.mono ?_
  rintro e w' ⟨rfl, hb⟩
  go_wp2_with fail
  go_ret
  exact ⟨rfl, hb⟩
end Go.Proofs.YtaijdpckkobofaaDoor
