/- ref21: text. (wip/gen_ref2.py) -/
import Derived.Test.YtaijdpckkobofaaDoorRef1
import Derived.Test.YtaijdpckkobofaaDoorLex9
import Derived.Test.YtaijdpckkobofaaDoorLex12
import Derived.IntWalk
namespace Go.Proofs.YtaijdpckkobofaaDoor
open Go.RowKit
set_option linter.unusedVariables false

def refTextV : Res → Value
  | .inl a => .tuple #[.agg #[.int .i64 0, .string ⟨#[]⟩, .int .i64 0, .int .i64 0], .int .i64 0, .int .i64 a]
  | .inr (t, j) => .tuple #[t.val, .int .i64 j, .int .i64 (-1)]

theorem below_set4 {w wr : World} (h : Below w.heap.size w wr) {r : Nat} (hr : w.heap.size ≤ r) (a b c d : Value) : Below w.heap.size w ((((wr.setCell ⟨r, 0, none⟩ a).setCell ⟨r, 1, none⟩ b).setCell ⟨r, 2, none⟩ c).setCell ⟨r, 3, none⟩ d) :=
  (((h.setCell (p := ⟨r, 0, none⟩) hr a).setCell (p := ⟨r, 1, none⟩) hr b).setCell (p := ⟨r, 2, none⟩) hr c).setCell (p := ⟨r, 3, none⟩) hr d

/-- the escape at a place, by the byte behind the backslash -/
theorem escOf_end {s : ByteArray} {k : Nat} (h : ¬ k + 1 < s.size) : escOf s k = none := by unfold escOf; rw [if_neg h]
theorem escOf_self {s : ByteArray} {k : Nat} (h : k + 1 < s.size) (h1 : byteAt s (k + 1) = 34 ∨ byteAt s (k + 1) = 92) : escOf s k = some (byteAt s (k + 1), 2) := by unfold escOf; rw [if_pos h, if_pos h1]
theorem escOf_nl {s : ByteArray} {k : Nat} (h : k + 1 < s.size) (h1 : byteAt s (k + 1) = 110) : escOf s k = some (10, 2) := by unfold escOf; rw [if_pos h, if_neg (by omega), if_pos h1]
theorem escOf_hex {s : ByteArray} {k : Nat} (h : k + 3 < s.size) (h1 : byteAt s (k + 1) = 120) : escOf s k = (hexOf (byteAt s (k + 2))).bind fun a => (hexOf (byteAt s (k + 3))).map fun b => (16 * a + b, 4) := by
  unfold escOf; rw [if_pos (by omega), if_neg (by omega), if_neg (by omega), if_pos ⟨h1, h⟩]
theorem escOf_none {s : ByteArray} {k : Nat} (h1 : byteAt s (k + 1) ≠ 34) (h2 : byteAt s (k + 1) ≠ 92) (h3 : byteAt s (k + 1) ≠ 110) (h4 : byteAt s (k + 1) ≠ 120 ∨ ¬ k + 3 < s.size) : escOf s k = none := by
  unfold escOf
  by_cases h : k + 1 < s.size
  · rw [if_pos h, if_neg (by omega), if_neg (by omega), if_neg (by omega)]
  · rw [if_neg h]

set_option maxRecDepth 100000 in
set_option maxHeartbeats 4000000 in
theorem rtext_any (s : ByteArray) (i : Nat) (w : World) (hi : i < s.size) (hs : s.size ≤ 8000) :
    Calls Tryd.prog 76 #[.string s, .int .i64 i] w fun e w' => e = .returned (refTextV (textAt s i)) ∧ Below w.heap.size w w' := by
  obtain ⟨i0, hif, hz0, hz1, hz2⟩ := info_parts info_u8
  obtain ⟨w1, hw1⟩ : ∃ w1, w.alloc (.cells #[.int .i64 0, .string ⟨#[]⟩, .int .i64 0, .int .i64 0] 75) = w1 := ⟨_, rfl⟩
  obtain ⟨r, hr⟩ : ∃ r, w.heap.size = r := ⟨_, rfl⟩
  obtain ⟨q, hq⟩ : ∃ q, w1.heap.size = q := ⟨_, rfl⟩
  have hrq : r < q := by rw [← hq, ← hw1, World.size_alloc]; omega
  have hh1 : w1.heap[r]? = some (.cells #[.int .i64 0, .string ⟨#[]⟩, .int .i64 0, .int .i64 0] 75 (0, 0)) := by rw [← hw1, ← hr]; exact heap_new _ _
  have Hb1 : Hid (Below w.heap.size w w1) := Lib.hid (by rw [← hw1]; exact (Below.refl _ _).alloc (Nat.le_refl _) _)
  have Hh1 := Lib.hid hh1
  have hwr : w.heap.size ≤ r := by omega
  have hwq : w.heap.size ≤ q := by omega
  have hq1 : q ≤ w1.heap.size := by omega
  have Hw1 := Lib.hid hw1
  have Hr := Lib.hid hr
  clear hw1 hh1 hr hq
  go_enter Tryd.func76, Tryd.ntmps76
  go_wp2_with fail
  rw [Hw1.out, Hr.out]
  clear Hw1 Hr
  go_loopw [7, 8] (fun v at' wr => ∃ (k : Nat) (acc : List UInt8), k ≤ s.size ∧ at' = .int .i64 k ∧ wr.ownsRow q 5 1 v acc.length (Lib.byteCells acc) ∧ Below q w1 wr ∧ acc.length ≤ k ∧ textFrom s k acc = textFrom s (i + 1) []) (fun _ at' _ => s.size - (intOf at').toNat)
  case atStart => exact ⟨i + 1, [], by omega, by go_num, World.ownsRow_nil _ _ _ _, Below.refl _ _, by simp, rfl⟩
  case round =>
    obtain ⟨k, acc, hk, rfl, hown, hbel, hac, htx⟩ := hrel
    have hqw : q ≤ wr.heap.size := by have := hbel.size; omega
    have HBW := Lib.hid (Hb1.out.trans (hbel.mono hwq))
    have hhr : wr.heap[r]? = some (.cells #[.int .i64 0, .string ⟨#[]⟩, .int .i64 0, .int .i64 0] 75 (0, 0)) := by rw [hbel.block r hrq]; exact Hh1.out
    have d0 : wr.cell? ⟨r, 0, none⟩ = some (.int .i64 0) := by rw [Lib.cell_of_heap hhr]; rfl
    have d1 : wr.cell? ⟨r, 1, none⟩ = some (.string ⟨#[]⟩) := by rw [Lib.cell_of_heap hhr]; rfl
    have d2 : wr.cell? ⟨r, 2, none⟩ = some (.int .i64 0) := by rw [Lib.cell_of_heap hhr]; rfl
    have d3 : wr.cell? ⟨r, 3, none⟩ = some (.int .i64 0) := by rw [Lib.cell_of_heap hhr]; rfl
    have f0 := Lib.frozen_of_heap hhr 0
    have f1 := Lib.frozen_of_heap hhr 1
    have f2 := Lib.frozen_of_heap hhr 2
    have f3 := Lib.frozen_of_heap hhr 3
    have HT := Lib.hid htx
    clear htx hhr
    by_cases hlt : k < s.size
    · obtain ⟨u, hu, hb, hu8⟩ := byteAt_some hlt
      have Hb := Lib.hid hb
      clear hb
      by_cases h34 : u = 34
      · subst h34
        have HTA : Hid (textAt s i = .inr (⟨4, ⟨acc.toArray⟩, 0, i⟩, k + 1)) := Lib.hid (textAt_ok (by rw [← HT.out, textFrom_quote hlt Hb.out]))
        have hcv := conv_own hown
        obtain ⟨tx, htx⟩ : ∃ tx : ByteArray, (⟨acc.toArray⟩ : ByteArray) = tx := ⟨_, rfl⟩
        rw [htx] at HTA hcv
        clear htx
        go_wp2_with fail
        refine bodyPost_ret (v := .tuple #[.agg #[.int .i64 4, .string tx, .int .i64 0, .int .i64 i], .int .i64 ((k : Int) + 1), .int .i64 (-1)]) ?_ rfl ?_
        · simp [results, Tryd.results76, go_sem, d0, d1, d2, d3]
        exact ⟨by rw [HTA.out]; rfl, below_set4 HBW.out hwr _ _ _ _⟩
      · have e34 : ((u : Int) == 34) = false := by rw [beq_eq_false_iff_ne]; omega
        by_cases h92 : u = 92
        · subst h92
          clear h34
          by_cases hlt1 : k + 1 < s.size
          · obtain ⟨u1, hu1, hb1, hu18⟩ := byteAt_some hlt1
            have Hc1 := Lib.hid hb1
            clear hb1
            have hk1 : ((k : Int) + 1).toNat = k + 1 := by omega
            have hlI : (k : Int) + 1 < (s.size : Int) := by omega
            by_cases hself : u1 = 34 ∨ u1 = 92
            · have HS : Hid (textFrom s k acc = textFrom s (k + 2) (acc ++ [UInt8.ofNat u1])) := Lib.hid (textFrom_esc hlt Hb.out (by rw [escOf_self hlt1 (by rw [Hc1.out]; exact hself), Hc1.out]))
              rcases hself with rfl | rfl
              all_goals
                go_wp2_with (first | (at_builtin; refine wpList_append_own _ rfl (.tmp 62) (.tmp 67) 35 rfl q 5 i0 (.int .u8 0) 1 1 Tryd.underlying35 hif hz0 hz1 hz2 rfl (by decide) _ acc.length _ rfl (hown.alloc _) ⟨wr.heap.size, 0, none⟩ 1 1 [_] rfl rfl (cell_one_new _ _ _) (one_cell _ rfl) (by unfold maxLen; omega) (by omega) (by rw [World.size_alloc]; omega) ?_; intro v' w9 hown9 hgrow _; have hbel9 := below_app hbel hqw hown hgrow))
                go_roundw
                case rel => exact ⟨k + 2, acc ++ [UInt8.ofNat _], by omega, by go_num, by rw [byteCells_snoc acc _ (by omega), List.length_append]; exact hown9, hbel9, by simp; omega, by rw [← HS.out]; exact HT.out⟩
                case measure => simp [intOf]; omega
            · have e1 : ((u1 : Int) == 34) = false := by rw [beq_eq_false_iff_ne]; omega
              have e2 : ((u1 : Int) == 92) = false := by rw [beq_eq_false_iff_ne]; omega
              by_cases h110 : u1 = 110
              · have HS : Hid (textFrom s k acc = textFrom s (k + 2) (acc ++ [UInt8.ofNat 10])) := Lib.hid (textFrom_esc hlt Hb.out (escOf_nl hlt1 (by rw [Hc1.out]; exact h110)))
                subst h110
                clear hself
                go_wp2_with (first | (at_builtin; refine wpList_append_own _ rfl (.tmp 83) (.tmp 84) 35 rfl q 5 i0 (.int .u8 0) 1 1 Tryd.underlying35 hif hz0 hz1 hz2 rfl (by decide) _ acc.length _ rfl (hown.alloc _) ⟨wr.heap.size, 0, none⟩ 1 1 [_] rfl rfl (cell_one_new _ _ _) (one_cell _ rfl) (by unfold maxLen; omega) (by omega) (by rw [World.size_alloc]; omega) ?_; intro v' w9 hown9 hgrow _; have hbel9 := below_app hbel hqw hown hgrow))
                go_roundw
                case rel => exact ⟨k + 2, acc ++ [UInt8.ofNat 10], by omega, by go_num, by rw [byteCells_snoc acc 10 (by omega), List.length_append]; exact hown9, hbel9, by simp; omega, by rw [← HS.out]; exact HT.out⟩
                case measure => simp [intOf]; omega
              · have e3 : ((u1 : Int) == 110) = false := by rw [beq_eq_false_iff_ne]; omega
                by_cases h120 : u1 = 120
                · by_cases hlt3 : k + 3 < s.size
                  · obtain ⟨u2, hu2, hb2, hu28⟩ := byteAt_some (show k + 2 < s.size by omega)
                    obtain ⟨u3, hu3, hb3, hu38⟩ := byteAt_some hlt3
                    subst h120
                    have HE : Hid (escOf s k = (hexOf u2).bind fun a => (hexOf u3).map fun b => (16 * a + b, 4)) := Lib.hid (by rw [escOf_hex hlt3 Hc1.out, hb2, hb3])
                    clear hself h110 hb2 hb3
                    have hk2 : ((k : Int) + 2).toNat = k + 2 := by omega
                    have hk3 : ((k : Int) + 3).toNat = k + 3 := by omega
                    have hlI2 : (k : Int) + 2 < (s.size : Int) := by omega
                    have hlI3 : (k : Int) + 3 < (s.size : Int) := by omega
                    cases hx2 : hexOf u2 with
                    | none =>
                      have hz2' : hexZ u2 = -1 := by unfold hexZ; rw [hx2]
                      have HTA : Hid (textAt s i = .inl k) := Lib.hid (textAt_bad (by rw [← HT.out, textFrom_noesc hlt Hb.out (by rw [HE.out, hx2]; rfl)]))
                      clear hx2
                      go_wp2_with (go_at_call 119; refine (rhex_any _ (by assumption) _).mono ?_; rintro e w2 ⟨he, hw2⟩; have hw2 := hw2.symm; subst hw2; (try rw [hz2'] at he); (try rw [hz3'] at he); subst he)
                      refine bodyPost_ret (v := .tuple #[.agg #[.int .i64 0, .string ⟨#[]⟩, .int .i64 0, .int .i64 0], .int .i64 0, .int .i64 k]) ?_ rfl ?_
                      · simp [results, Tryd.results76, go_sem, d0, d1, d2, d3]
                      exact ⟨by rw [HTA.out]; rfl, below_set4 HBW.out hwr _ _ _ _⟩
                    | some a =>
                      have hz2' : hexZ u2 = (a : Int) := by unfold hexZ; rw [hx2]
                      have ha16 := hexOf_lt hx2
                      cases hx3 : hexOf u3 with
                      | none =>
                        have hz3' : hexZ u3 = -1 := by unfold hexZ; rw [hx3]
                        have HTA : Hid (textAt s i = .inl k) := Lib.hid (textAt_bad (by rw [← HT.out, textFrom_noesc hlt Hb.out (by rw [HE.out, hx2, hx3]; rfl)]))
                        clear hx2 hx3
                        go_wp2_with (go_at_call 119; refine (rhex_any _ (by assumption) _).mono ?_; rintro e w2 ⟨he, hw2⟩; have hw2 := hw2.symm; subst hw2; (try rw [hz2'] at he); (try rw [hz3'] at he); subst he)
                        refine bodyPost_ret (v := .tuple #[.agg #[.int .i64 0, .string ⟨#[]⟩, .int .i64 0, .int .i64 0], .int .i64 0, .int .i64 k]) ?_ rfl ?_
                        · simp [results, Tryd.results76, go_sem, d0, d1, d2, d3]
                        exact ⟨by rw [HTA.out]; rfl, below_set4 HBW.out hwr _ _ _ _⟩
                      | some b =>
                        have hz3' : hexZ u3 = (b : Int) := by unfold hexZ; rw [hx3]
                        have hb16 := hexOf_lt hx3
                        obtain ⟨x, hx⟩ : ∃ x, 16 * a + b = x := ⟨_, rfl⟩
                        have HS : Hid (textFrom s k acc = textFrom s (k + 4) (acc ++ [UInt8.ofNat x])) := Lib.hid (textFrom_esc hlt Hb.out (by rw [HE.out, hx2, hx3]; show some (16 * a + b, 4) = _; rw [hx]))
                        have hx8 : x < 256 := by omega
                        clear hx2 hx3
                        go_upto_region 19 with (go_at_call 119; refine (rhex_any _ (by assumption) _).mono ?_; rintro e w2 ⟨he, hw2⟩; have hw2 := hw2.symm; subst hw2; (try rw [hz2'] at he); (try rw [hz3'] at he); subst he)
                        have hxI : 16 * (a : Int) + (b : Int) = (x : Int) := by omega
                        have g1 : IntKind.i64.wrap (16 * (a : Int)) = 16 * a := IntWalk.i64_in _ (by omega)
                        have g2 : IntKind.i64.wrap (16 * (a : Int) + (b : Int)) = x := by rw [hxI]; exact IntWalk.i64_in _ (by omega)
                        have g3 : IntKind.u8.wrap (x : Int) = x := IntWalk.u8_in _ (by omega)
                        have g4 : IntKind.i64.wrap ((k : Int) + 2) = k + 2 := IntWalk.i64_in _ (by omega)
                        have g5 : IntKind.i64.wrap ((k : Int) + 3) = k + 3 := IntWalk.i64_in _ (by omega)
                        clear hxI
                        have hS1 : AnyW wr := rfl
                        have hS2 : AnyW wr.drew := rfl
                        go_region_held3 (fun w' => AnyW w') (exact (rfl : _ = _)) (first | (go_at_call 119; refine (rhex_any _ (by assumption) _).mono ?_; rintro e w2 ⟨he, hw2⟩; have hw2 := hw2.symm; subst hw2; (try rw [hz2'] at he); (try rw [hz3'] at he); subst he) | (refine step_append_own rfl (.tmp 116) (.tmp 130) 35 rfl q 5 i0 (.int .u8 0) 1 1 Tryd.underlying35 hif hz0 hz1 hz2 rfl (by decide) _ acc.length _ (by simp [Act.eval]) (hown.alloc _) ⟨wr.heap.size, 0, none⟩ 1 1 [.int .u8 (x : Int)] (by simp [Act.eval]) rfl (cells_new _ [_] _) (one_cell _ rfl) (by unfold maxLen; omega) (by omega) (le_alloc_drew hqw _) ?_; intro v' w9 hown9 hgrow))
                        all_goals
                          have hbel9 : Below q w1 w9 := below_grow (Below.drew (hbel.alloc hqw _)) (le_alloc_drew hqw _) (hown.alloc _) hgrow
                          clear g1 g2 g3 g4 g5 hS1 hS2
                          go_wp2_with fail
                          go_roundw
                          case rel => exact ⟨k + 4, acc ++ [UInt8.ofNat x], by omega, by go_num, by rw [byteCells_snoc acc x (by omega), List.length_append]; exact hown9, hbel9, by simp; omega, by rw [← HS.out]; exact HT.out⟩
                          case measure => simp [intOf]; omega
                  · subst h120
                    have HTA : Hid (textAt s i = .inl k) := Lib.hid (textAt_bad (by rw [← HT.out, textFrom_noesc hlt Hb.out (escOf_none (by rw [Hc1.out]; decide) (by rw [Hc1.out]; decide) (by rw [Hc1.out]; decide) (Or.inr hlt3))]))
                    clear hself h110
                    go_wp2_with fail
                    refine bodyPost_ret (v := .tuple #[.agg #[.int .i64 0, .string ⟨#[]⟩, .int .i64 0, .int .i64 0], .int .i64 0, .int .i64 k]) ?_ rfl ?_
                    · simp [results, Tryd.results76, go_sem, d0, d1, d2, d3]
                    exact ⟨by rw [HTA.out]; rfl, below_set4 HBW.out hwr _ _ _ _⟩
                · have e4 : ((u1 : Int) == 120) = false := by rw [beq_eq_false_iff_ne]; omega
                  have HTA : Hid (textAt s i = .inl k) := Lib.hid (textAt_bad (by rw [← HT.out, textFrom_noesc hlt Hb.out (escOf_none (by rw [Hc1.out]; omega) (by rw [Hc1.out]; omega) (by rw [Hc1.out]; exact h110) (Or.inl (by rw [Hc1.out]; exact h120)))]))
                  clear hself h110 h120
                  go_wp2_with fail
                  all_goals
                    refine bodyPost_ret (v := .tuple #[.agg #[.int .i64 0, .string ⟨#[]⟩, .int .i64 0, .int .i64 0], .int .i64 0, .int .i64 k]) ?_ rfl ?_
                    · simp [results, Tryd.results76, go_sem, d0, d1, d2, d3]
                    exact ⟨by rw [HTA.out]; rfl, below_set4 HBW.out hwr _ _ _ _⟩
          · have HTA : Hid (textAt s i = .inl k) := Lib.hid (textAt_bad (by rw [← HT.out, textFrom_noesc hlt Hb.out (escOf_end hlt1)]))
            go_wp2_with fail
            refine bodyPost_ret (v := .tuple #[.agg #[.int .i64 0, .string ⟨#[]⟩, .int .i64 0, .int .i64 0], .int .i64 0, .int .i64 k]) ?_ rfl ?_
            · simp [results, Tryd.results76, go_sem, d0, d1, d2, d3]
            exact ⟨by rw [HTA.out]; rfl, below_set4 HBW.out hwr _ _ _ _⟩
        · have e92 : ((u : Int) != 92) = true := by simp; omega
          by_cases hbad : u < 32 ∨ 126 < u
          · have HTA : Hid (textAt s i = .inl k) := Lib.hid (textAt_bad (by rw [← HT.out, textFrom_bad hlt (by rw [Hb.out]; exact hbad)]))
            rcases hbad with hbad | hbad
            all_goals
              go_wp2_with fail
              refine bodyPost_ret (v := .tuple #[.agg #[.int .i64 0, .string ⟨#[]⟩, .int .i64 0, .int .i64 0], .int .i64 0, .int .i64 k]) ?_ rfl ?_
              · simp [results, Tryd.results76, go_sem, d0, d1, d2, d3]
              exact ⟨by rw [HTA.out]; rfl, below_set4 HBW.out hwr _ _ _ _⟩
          · have HS : Hid (textFrom s k acc = textFrom s (k + 1) (acc ++ [UInt8.ofNat u])) := Lib.hid (by rw [textFrom_plain hlt (by rw [Hb.out]; exact h34) (by rw [Hb.out]; exact h92) (by rw [Hb.out]; exact hbad), Hb.out])
            have hlo : 32 ≤ u := by omega
            have hhi : u ≤ 126 := by omega
            clear hbad h34
            go_wp2_with (first | (at_builtin; refine wpList_append_own _ rfl (.tmp 37) (.tmp 39) 35 rfl q 5 i0 (.int .u8 0) 1 1 Tryd.underlying35 hif hz0 hz1 hz2 rfl (by decide) _ acc.length _ rfl (hown.alloc _) ⟨wr.heap.size, 0, none⟩ 1 1 [_] rfl rfl (cell_one_new _ _ _) (one_cell _ rfl) (by unfold maxLen; omega) (by omega) (by rw [World.size_alloc]; omega) ?_; intro v' w9 hown9 hgrow _; have hbel9 := below_app hbel hqw hown hgrow))
            go_roundw
            case rel => exact ⟨k + 1, acc ++ [UInt8.ofNat u], by omega, by go_num, by rw [byteCells_snoc acc u (by omega), List.length_append]; exact hown9, hbel9, by simp; omega, by rw [← HS.out]; exact HT.out⟩
            case measure => simp [intOf]; omega
    · have HTA : Hid (textAt s i = .inl s.size) := Lib.hid (textAt_bad (by rw [← HT.out, textFrom_end hlt]))
      go_wp2_with fail
      refine bodyPost_ret (v := .tuple #[.agg #[.int .i64 0, .string ⟨#[]⟩, .int .i64 0, .int .i64 0], .int .i64 0, .int .i64 s.size]) ?_ rfl ?_
      · simp [results, Tryd.results76, go_sem, d0, d1, d2, d3]
      exact ⟨by rw [HTA.out]; rfl, below_set4 HBW.out hwr _ _ _ _⟩
end Go.Proofs.YtaijdpckkobofaaDoor
