/- Sizes; puts and names of no kind. -/
import Derived.Test.YtaijdpckkobofaaDoorBPut3
namespace Go.Proofs.YtaijdpckkobofaaDoor
open Go.RowKit
set_option linter.unusedVariables false

theorem Sz.route {N K : Nat} {p : PProg} (h : Sz N p) {m : List PStop} (k : m.length + 1 ≤ K) : Sz (N + K) { p with routes := p.routes ++ [m] } := by
  obtain ⟨⟨h1, h2, h3, h4⟩, h5, h6, h7⟩ := h
  refine ⟨⟨Nat.le_trans h1 (by omega), Nat.le_trans h2 (by omega), ?_, Nat.le_trans h4 (by omega)⟩, fun m hm => Nat.le_trans (h5 m hm) (by omega), fun x hx => ?_, fun m hm => Nat.le_trans (h7 m hm) (by omega)⟩
  · show (p.routes ++ [m]).length ≤ _
    rw [List.length_append, List.length_singleton]; omega
  · rcases List.mem_append.1 hx with hx | hx
    · exact Nat.le_trans (h6 x hx) (by omega)
    · simp only [List.mem_singleton] at hx
      subst hx; omega
theorem Sz.send {N K : Nat} {p : PProg} (h : Sz N p) {m : PSpec} (k : m.routes.length + 1 ≤ K) : Sz (N + K) { p with sends := p.sends ++ [m] } := by
  obtain ⟨⟨h1, h2, h3, h4⟩, h5, h6, h7⟩ := h
  refine ⟨⟨Nat.le_trans h1 (by omega), Nat.le_trans h2 (by omega), Nat.le_trans h3 (by omega), ?_⟩, fun m hm => Nat.le_trans (h5 m hm) (by omega), fun m hm => Nat.le_trans (h6 m hm) (by omega), fun x hx => ?_⟩
  · show (p.sends ++ [m]).length ≤ _
    rw [List.length_append, List.length_singleton]; omega
  · rcases List.mem_append.1 hx with hx | hx
    · exact Nat.le_trans (h7 x hx) (by omega)
    · simp only [List.mem_singleton] at hx
      subst hx; omega
theorem stops_d (l : List PStop) (j : Nat) (h : j < l.length) : ∃ x, (stopsCells l)[j * 3 + 1]? = some (.int .i64 x) := by
  obtain ⟨y, hy⟩ := get_of_lt h
  exact ⟨y.delay, by rw [stopsCells, flat_get (f := PStop.cells) (m := 3) (fun _ => rfl) l j 1 y hy (by omega)]; rfl⟩

set_option maxRecDepth 100000 in
set_option maxHeartbeats 2000000 in
theorem puts_no (b z : Nat) (w : World) (k a t m bl : Int) (x1 x2 x3 x4 : Option Addr) (n1 n2 n3 n4 c1 c2 c3 c4 : Nat) (h1 : k ≠ 1) (h2 : k ≠ 2) (h3 : k ≠ 3) :
    Calls Tryd.prog 11 #[.pointer (some ⟨b, 0, none⟩), .pointer (some ⟨z, 0, none⟩), .agg #[.int .i64 k, .int .i64 a, .int .i64 t, .slice x1 n1 c1, .slice x2 n2 c2, .slice x3 n3 c3, .int .i64 m, .slice x4 n4 c4, .int .i64 bl]] w fun e w' => e = .returned (.bool true) ∧ Below w.heap.size w w' := by
  have e1 : (k == 1) = false := by rw [beq_eq_false_iff_ne]; exact h1
  have e2 : (k == 2) = false := by rw [beq_eq_false_iff_ne]; exact h2
  have e3 : (k == 3) = false := by rw [beq_eq_false_iff_ne]; exact h3
  go_enter Tryd.func11, Tryd.ntmps11
  go_wp2_with fail
  go_ret
  exact ⟨rfl, (Below.refl _ _).alloc (Nat.le_refl _) _⟩
set_option maxRecDepth 100000 in
set_option maxHeartbeats 2000000 in
theorem names_no (b z : Nat) (w : World) (k a t m bl : Int) (x1 x2 x3 x4 : Option Addr) (n1 n2 n3 n4 c1 c2 c3 c4 : Nat) (h1 : k ≠ 4) (h2 : k ≠ 5) :
    Calls Tryd.prog 12 #[.pointer (some ⟨b, 0, none⟩), .pointer (some ⟨z, 0, none⟩), .agg #[.int .i64 k, .int .i64 a, .int .i64 t, .slice x1 n1 c1, .slice x2 n2 c2, .slice x3 n3 c3, .int .i64 m, .slice x4 n4 c4, .int .i64 bl]] w fun e w' => e = .returned (.bool true) ∧ Below w.heap.size w w' := by
  have e1 : (k == 4) = false := by rw [beq_eq_false_iff_ne]; exact h1
  have e2 : (k == 5) = false := by rw [beq_eq_false_iff_ne]; exact h2
  go_enter Tryd.func12, Tryd.ntmps12
  go_wp2_with fail
  go_ret
  exact ⟨rfl, (Below.refl _ _).alloc (Nat.le_refl _) _⟩
end Go.Proofs.YtaijdpckkobofaaDoor
