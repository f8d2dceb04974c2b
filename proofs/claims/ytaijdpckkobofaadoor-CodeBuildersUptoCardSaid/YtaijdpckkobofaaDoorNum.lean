/- writer.number: numbers of so many bytes, behind what is there. -/
import Derived.Test.YtaijdpckkobofaaDoorBuf
import Derived.Test.YtaijdpckkobofaaDoorPut
namespace Go.Proofs.YtaijdpckkobofaaDoor
open Go.RowKit
set_option linter.unusedVariables false

/-- what number writes of one number -/
def numVals (width : Nat) (x : Int) : List Value := (beVals (IntKind.u64.wrap x)).drop (8 - width)

theorem beVals_ok (u : Int) : bytesOk (beVals u) := by
  intro v hv
  simp only [beVals, List.mem_cons, List.not_mem_nil, or_false] at hv
  rcases hv with rfl | rfl | rfl | rfl | rfl | rfl | rfl | rfl <;> exact ⟨_, rfl⟩
theorem numVals_ok (width : Nat) (x : Int) : bytesOk (numVals width x) := fun v hv => beVals_ok _ v (List.drop_subset _ _ hv)
theorem numVals_length (width : Nat) (x : Int) (h : width ≤ 8) : (numVals width x).length = width := by
  simp [numVals, beVals]; omega

theorem slice_tail (g width : Nat) (W : World) (h1 : 1 ≤ width) (h8 : width ≤ 8) :
    (Instr.slice 35 (.slice (some ⟨g, 0, none⟩) 8 8) (some (.int .i64 (8 - (width : Int)))) none none).run Tryd.prog W = .ok (.slice (some ⟨g, 8 - width, none⟩) width width) W := by
  have e1 : ((8 : Int) - (width : Int)).toNat = 8 - width := by omega
  have e2 : ¬ (8 = 8 - width) := by omega
  have e3 : 8 - (8 - width) = width := by omega
  simp [go_sem, e1, e2, e3, Addr.add]
  rw [if_pos ⟨by omega, by omega⟩]
  by_cases h : 8 - width = 0
  · rw [if_pos h, h]
  · rw [if_neg h]

theorem bytesOk.byte (n : Int) : bytesOk [.int .u8 n] := fun v hv => ⟨n, by simpa using hv⟩
theorem flat_ok (xs : List Int) (width : Nat) : bytesOk (xs.flatMap (numVals width)) := by
  intro v hv
  obtain ⟨x, _, hx⟩ := List.mem_flatMap.1 hv
  exact numVals_ok _ _ v hx
theorem flat_length (xs : List Int) (width : Nat) (h : width ≤ 8) : (xs.flatMap (numVals width)).length = xs.length * width := by
  induction xs with
  | nil => simp
  | cons x xs ih => simp only [List.flatMap_cons, List.length_append, numVals_length _ _ h, ih, List.length_cons, Nat.succ_mul]; omega

theorem u64_bd (x : Int) : 0 ≤ IntKind.u64.wrap x ∧ IntKind.u64.wrap x ≤ 18446744073709551615 := by
  simp only [IntKind.wrap, IntKind.signed, IntKind.bits]; simp; omega

set_option maxHeartbeats 1000000 in
theorem number_any (B b width : Nat) (bs : List Value) (xs : List Int) (la : Option Addr) (lc : Nat) (w : World) (h : IsBuf B b bs w) (hBw : B ≤ w.heap.size) (h1 : bytesOk bs)
    (hw1 : 1 ≤ width) (hw8 : width ≤ 8) (hlim : bs.length + 8 * xs.length ≤ 100000000)
    (hx : ∀ x ∈ xs, -9223372036854775808 ≤ x ∧ x ≤ 9223372036854775807)
    (hl : ∀ w', Wr B b w w' → ∀ j x, xs[j]? = some x → ∃ a, la = some a ∧ w'.cell? (a.add j) = some (.int .i64 x)) :
    Calls Tryd.prog 58 #[.pointer (some ⟨b, 0, none⟩), .int .i64 width, .slice la xs.length lc] w fun e w' => e = .returned (.tuple #[]) ∧ IsBuf B b (bs ++ xs.flatMap (numVals width)) w' ∧ Wr B b w w' := by
  go_enter Tryd.func58, Tryd.ntmps58
  go_wp2
  go_loopw [12] (fun i wr => ∃ k : Nat, k ≤ xs.length ∧ i = .int .i64 k ∧ IsBuf B b (bs ++ (xs.take k).flatMap (numVals width)) wr ∧ Wr B b w wr) (fun i _ => xs.length - (intOf i).toNat)
  case atStart => exact ⟨0, Nat.zero_le _, rfl, by simpa using h, Wr.refl _ _ _⟩
  case round =>
    obtain ⟨k, hk, rfl, hb, hwr⟩ := hrel
    by_cases hlt : k < xs.length
    · obtain ⟨a, rfl, hc⟩ := hl _ hwr k xs[k] (by simp [hlt])
      have hxk := hx xs[k] (by simp)
      generalize hxe : xs[k] = x at *
      have hu := u64_bd x
      go_wp2_with fail
      refine (put8 _ _ hu.1 hu.2).mono ?_
      rintro e w1 ⟨rfl, m, rfl⟩
      go_wp2_with fail
      have hsl : ∀ W g, (Instr.slice 35 (.slice (some ⟨g, 0, none⟩) 8 8) (some (.int .i64 (8 - (width : Int)))) none none).run Tryd.prog W = .ok (.slice (some ⟨g, 8 - width, none⟩) width width) W := fun W g => slice_tail g width W hw1 hw8
      have hwr8 : IntKind.i64.wrap (8 - (width : Int)) = 8 - (width : Int) := IntWalk.i64_in _ (by omega)
      have HW : Hid (∀ m', Calls Tryd.prog 60 #[.pointer (some ⟨b, 0, none⟩), .slice (some ⟨wr.heap.size, 8 - width, none⟩) width width] ((wr.alloc (.cells (beVals (IntKind.u64.wrap x)).toArray 5)).drewN m') fun e w' => e = .returned (.tuple #[.int .i64 width, .nilIface]) ∧ IsBuf B b (bs ++ (xs.take (k + 1)).flatMap (numVals width)) w' ∧ Wr B b w w') := by
        intro m'
        refine (bWrite B b _ (numVals width x) _ _ _ _ ((hb.alloc _).drewN m') ?_ (h1.append (flat_ok _ _)) (numVals_length _ _ hw8) ?_ ?_ (numVals_ok _ _) ?_).mono ?_
        · have := hwr.size; simp; omega
        · have := hb.lt; simp; omega
        · intro j v hj
          rw [cell_new]
          simpa [numVals] using hj
        · have h2 := flat_length (xs.take k) width hw8
          have h3 : (xs.take k).length * width ≤ xs.length * 8 := Nat.mul_le_mul (by simp; omega) hw8
          rw [List.length_append, h2]; omega
        · rintro e w2 ⟨rfl, hb2, hwr2⟩
          refine ⟨rfl, ?_, ((hwr.alloc (by have := hwr.size; omega) _).drewN m').trans hwr2⟩
          rw [List.take_succ_eq_append_getElem hlt, hxe]
          simpa using hb2
      clear hb hwr h1
      go_region_with (go_at_call 60; refine (HW.out _).mono ?_; rintro e w2 ⟨rfl, hb2, hwr2⟩)
      all_goals
        go_wp2
        go_roundw
        case rel => exact ⟨k + 1, by omega, by go_num, hb2, hwr2⟩
        case measure => simp [intOf]; omega
    · go_wp2_with fail
      go_end0
      rw [List.take_of_length_le (by omega)] at hb
      exact ⟨rfl, hb, hwr⟩

/-- the same over a list that has just been laid -/
theorem number_new (B b width : Nat) (bs : List Value) (xs : List Int) (vs : Array Value) (n : Nat) (w : World) (hvs : vs = (xs.map (Value.int .i64)).toArray) (hn : n = xs.length) (h : IsBuf B b bs w) (hBw : B ≤ w.heap.size) (h1 : bytesOk bs)
    (hw1 : 1 ≤ width) (hw8 : width ≤ 8) (hlim : bs.length + 8 * xs.length ≤ 100000000)
    (hx : ∀ x ∈ xs, -9223372036854775808 ≤ x ∧ x ≤ 9223372036854775807) :
    Calls Tryd.prog 58 #[.pointer (some ⟨b, 0, none⟩), .int .i64 width, .slice (some ⟨w.heap.size, 0, none⟩) n n] (w.alloc (.cells vs 3)) fun e w' => e = .returned (.tuple #[]) ∧ IsBuf B b (bs ++ xs.flatMap (numVals width)) w' ∧ Wr B b w w' := by
  subst hvs hn
  refine (number_any B b width bs xs _ _ _ (h.alloc _) (by simp; omega) h1 hw1 hw8 hlim hx ?_).mono ?_
  · intro w' hwr j x hj
    refine ⟨_, rfl, ?_⟩
    have hk := hwr.keep (k := w.heap.size) (c := (xs.map (Value.int .i64)).toArray) (t := 3) (fz := (0, 0)) (by show (w.heap.push _)[w.heap.size]? = _; simp) (by have := h.lt; omega) (by decide)
    rw [add_plain, Lib.cell_of_heap hk]
    simp [hj]
  · rintro e w' ⟨rfl, hb, hwr⟩
    exact ⟨rfl, hb, ((Wr.refl B b w).alloc hBw _).trans hwr⟩
end Go.Proofs.YtaijdpckkobofaaDoor
