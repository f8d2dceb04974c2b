/- The reference's reading of a program: the number at a place, bytes at a place. -/
import Derived.Test.YtaijdpckkobofaaDoorDec9
namespace Go.Proofs.YtaijdpckkobofaaDoor
open Go.RowKit
set_option linter.unusedVariables false

theorem rshape_k (k : Nat) (w : World) (h1 : 1 ≤ k) (h8 : k ≤ 8) :
    Calls Tryd.prog 123 #[.int .i64 2, .int .i64 k] w fun e w' => e = .returned (.bool true) ∧ w = w' := by
  have d1 : decide ((1 : Int) ≤ (k : Int)) = true := dt (by omega)
  have d2 : decide ((k : Int) ≤ 8) = true := dt (by omega)
  go_enter Tryd.func123, Tryd.ntmps123
  go_wp2
  all_goals
    go_ret
    exact ⟨rfl, rfl⟩

theorem ret_two {a b : Int} (h : a = b) : Ending.returned (.tuple #[.int .u64 a, .int .i64 0]) = .returned (.tuple #[.int .u64 b, .int .i64 0]) := by rw [h]
theorem drop_take_get {l : List UInt8} {p k j : Nat} {x : UInt8} (h : l[p + j]? = some x) (hj : j < k) : ((l.drop p).take k)[j]? = some x := by
  rw [List.getElem?_take, if_pos hj, List.getElem?_drop]; exact h
theorem list1 {l : List UInt8} {a : UInt8} (h : l.length = 1) (h0 : l[0]? = some a) : l = [a] := by
  match l, h with
  | [x], _ => simp at h0; subst h0; rfl
theorem list2 {l : List UInt8} {a b : UInt8} (h : l.length = 2) (h0 : l[0]? = some a) (h1 : l[1]? = some b) : l = [a, b] := by
  match l, h with
  | [x, y], _ => simp at h0 h1; subst h0 h1; rfl
theorem list4 {l : List UInt8} {a b c d : UInt8} (h : l.length = 4) (h0 : l[0]? = some a) (h1 : l[1]? = some b) (h2 : l[2]? = some c) (h3 : l[3]? = some d) : l = [a, b, c, d] := by
  match l, h with
  | [x, y, z, u], _ => simp at h0 h1 h2 h3; subst h0 h1 h2 h3; rfl
theorem bsA_cell {w : World} {a : Option Addr} {bs : List UInt8} (h : BsA w a bs) {j : Nat} (hj : j < bs.length) : ∃ g o x, a = some ⟨g, o, none⟩ ∧ bs[j]? = some x ∧ w.cell? ⟨g, o + j, none⟩ = some (.int .u8 (x.toNat : Int)) := by
  obtain ⟨x, hx⟩ := get_of_lt hj
  obtain ⟨g, o, ha, _, hc⟩ := h j x hx
  exact ⟨g, o, x, ha, hx, hc⟩

set_option maxRecDepth 100000 in
set_option maxHeartbeats 2000000 in
theorem rGet (a : Option Addr) (n c k p : Nat) (bs : List UInt8) (w : World) (hA : BsA w a bs) (hn : bs.length = n) (hk : k = 1 ∨ k = 2 ∨ k = 4) (hp : p + k ≤ n) (hb : n ≤ 140737488355328) :
    Calls Tryd.prog 98 #[.int .i64 2, .slice a n c, .int .i64 p, .int .i64 k] w fun e w' => e = .returned (.tuple #[.int .u64 (beOf ((bs.drop p).take k)), .int .i64 0]) ∧ w = w' := by
  have hlen : ((bs.drop p).take k).length = k := by rw [List.length_take, List.length_drop]; omega
  rcases hk with rfl | rfl | rfl
  · obtain ⟨g, o, x0, ha, hx0, c0⟩ := bsA_cell hA (j := p + 0) (by omega)
    have hl := list1 hlen (drop_take_get hx0 (by omega))
    have HV : Hid (beOf ((bs.drop p).take 1) = x0.toNat) := Lib.hid (by rw [hl]; simp [beOf])
    have hu0 := x0.toNat_lt
    generalize x0.toNat = u0 at *
    rw [Nat.add_zero] at c0
    subst ha
    clear hA hn hlen hx0 hl
    go_enter Tryd.func98, Tryd.ntmps98
    go_wp2_with (first | (go_at_call 123; refine (rshape_k 1 _ (by omega) (by omega)).mono ?_; rintro e w' ⟨rfl, rfl⟩))
    refine wp_loop_rounds 2 ?_
    repeat (rw [rounds_succ]; go_wp2_with fail)
    go_ret2
    exact ⟨ret_two (by rw [HV.out]), rfl⟩
  · obtain ⟨g, o, x0, ha, hx0, c0⟩ := bsA_cell hA (j := p + 0) (by omega)
    obtain ⟨g', o', x1, ha', hx1, c1⟩ := bsA_cell hA (j := p + 1) (by omega)
    rw [ha] at ha'
    cases ha'
    have hl := list2 hlen (drop_take_get hx0 (by omega)) (drop_take_get hx1 (by omega))
    have HV : Hid (beOf ((bs.drop p).take 2) = x0.toNat * 256 + x1.toNat) := Lib.hid (by rw [hl]; simp [beOf])
    have hu0 := x0.toNat_lt
    have hu1 := x1.toNat_lt
    generalize x0.toNat = u0 at *
    generalize x1.toNat = u1 at *
    rw [Nat.add_zero] at c0
    subst ha
    clear hA hn hlen hx0 hx1 hl
    go_enter Tryd.func98, Tryd.ntmps98
    go_wp2_with (first | (go_at_call 123; refine (rshape_k 2 _ (by omega) (by omega)).mono ?_; rintro e w' ⟨rfl, rfl⟩))
    refine wp_loop_rounds 3 ?_
    repeat (rw [rounds_succ]; go_wp2_with fail)
    go_ret2
    exact ⟨ret_two (by rw [HV.out]; omega), rfl⟩
  · obtain ⟨g, o, x0, ha, hx0, c0⟩ := bsA_cell hA (j := p + 0) (by omega)
    obtain ⟨g', o', x1, ha', hx1, c1⟩ := bsA_cell hA (j := p + 1) (by omega)
    rw [ha] at ha'
    cases ha'
    obtain ⟨g', o', x2, ha', hx2, c2⟩ := bsA_cell hA (j := p + 2) (by omega)
    rw [ha] at ha'
    cases ha'
    obtain ⟨g', o', x3, ha', hx3, c3⟩ := bsA_cell hA (j := p + 3) (by omega)
    rw [ha] at ha'
    cases ha'
    have hl := list4 hlen (drop_take_get hx0 (by omega)) (drop_take_get hx1 (by omega)) (drop_take_get hx2 (by omega)) (drop_take_get hx3 (by omega))
    have HV : Hid (beOf ((bs.drop p).take 4) = x0.toNat * 16777216 + x1.toNat * 65536 + x2.toNat * 256 + x3.toNat) := Lib.hid (by rw [hl]; simp [beOf]; omega)
    have hu0 := x0.toNat_lt
    have hu1 := x1.toNat_lt
    have hu2 := x2.toNat_lt
    have hu3 := x3.toNat_lt
    generalize x0.toNat = u0 at *
    generalize x1.toNat = u1 at *
    generalize x2.toNat = u2 at *
    generalize x3.toNat = u3 at *
    rw [Nat.add_zero] at c0
    subst ha
    clear hA hn hlen hx0 hx1 hx2 hx3 hl
    go_enter Tryd.func98, Tryd.ntmps98
    go_wp2_with (first | (go_at_call 123; refine (rshape_k 4 _ (by omega) (by omega)).mono ?_; rintro e w' ⟨rfl, rfl⟩))
    refine wp_loop_rounds 5 ?_
    repeat (rw [rounds_succ]; go_wp2_with fail)
    go_ret2
    exact ⟨ret_two (by rw [HV.out]; omega), rfl⟩
end Go.Proofs.YtaijdpckkobofaaDoor
