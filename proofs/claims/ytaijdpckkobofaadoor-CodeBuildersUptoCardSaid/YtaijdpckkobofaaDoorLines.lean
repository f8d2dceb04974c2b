/- code.Lines: a line for each instruction. -/
import Derived.Test.YtaijdpckkobofaaDoorLinesDef
import Derived.Deep.RegionWith
import Derived.Deep.RegionHeld3
import Derived.Deep.DeepCutAuto
namespace Go.Proofs.YtaijdpckkobofaaDoor
open Go.RowKit
set_option linter.unusedVariables false

set_option maxRecDepth 100000 in
set_option maxHeartbeats 2000000 in
theorem lines_any (g o cap : Nat) (st : Int) (xs : List Ins) (w : World) (h : InsAt w g o xs) (hg : g < w.heap.size) (hn : xs.length ≤ 5864062014805) (ht : Pow w) :
    Calls Tryd.prog 20 #[.agg #[.slice (some ⟨g, o, none⟩) xs.length cap, .slice none 0 0, .slice none 0 0, .slice none 0 0, .int .i64 0, .int .i64 st, .int .i64 0, .int .i64 0]] w fun e w' => ∃ v, e = .returned v ∧ w'.ownsRow w.heap.size 9 1 v xs.length (xs.map Ins.line) ∧ Below w.heap.size w w' := by
  obtain ⟨i0, hi, hz0, hz1, hz2⟩ := info_parts info_str
  go_enter Tryd.func20, Tryd.ntmps20
  go_wp2_with fail
  go_loopw [3, 12] (fun v i wr => ∃ k : Nat, k ≤ xs.length ∧ i = .int .i64 k ∧ wr.ownsRow w.heap.size 9 1 v k ((xs.take k).map Ins.line) ∧ Below w.heap.size w wr) (fun _ i _ => xs.length - (intOf i).toNat)
  case atStart => exact ⟨0, Nat.zero_le _, rfl, World.ownsRow_nil _ _ _ _, (Below.refl _ _).alloc (Nat.le_refl _) _⟩
  case round =>
    obtain ⟨k, hk, rfl, hown, hbel⟩ := hrel
    by_cases hlt : k < xs.length
    · obtain ⟨x, hx⟩ : ∃ x, xs[k]? = some x := ⟨_, List.getElem?_eq_getElem hlt⟩
      obtain ⟨⟨hop, ha, hb⟩, c0, c1, c2⟩ := (h.below hbel hg) k x hx
      have hxs : (xs.take (k + 1)).map Ins.line = (xs.take k).map Ins.line ++ [x.line] := by
        rw [List.take_add_one, hx]; simp
      have Hxs := Lib.hid hxs
      have Hx := Lib.hid hx
      clear hxs hx h
      have hsz := hbel.size
      have hgr : g < wr.heap.size := by omega
      by_cases h17 : x.op < 17
      · have hN := opName_at x.op h17
        have hL1 := opName_len x.op
        go_upto_region 7 with fail
        go_cut [6] (fun s6 wx => s6 = .string ⟨(opName x.op).toArray⟩ ∧ Below (wr.heap.size + 1) (wr.alloc (.cells #[.int .u8 x.op, .int .i64 x.a, .int .i64 x.b] 33)) wx)
        case first =>
          go_region_with (go_at_call 62; refine (names_any _).mono ?_; rintro e w' ⟨rfl, rfl⟩)
          all_goals (go_wp2_with fail; go_meet; exact ⟨rfl, below_new _ _ _⟩)
        case rest =>
          obtain ⟨wx, rfl⟩ : ∃ x : World, x = wc := ⟨_, rfl⟩
          obtain ⟨rfl, hwx⟩ := hcut
          have hsx := hwx.size
          rw [World.size_alloc] at hsx
          have hlx : wr.heap.size < wx.heap.size := hsx
          have b0 : wx.cell? ⟨wr.heap.size, 0, none⟩ = some (.int .u8 x.op) := (hwx.cell (p := ⟨wr.heap.size, 0, none⟩) (Nat.lt_succ_self _)).trans (cell_new0 _ _ _ _)
          have b1 : wx.cell? ⟨wr.heap.size, 1, none⟩ = some (.int .i64 x.a) := (hwx.cell (p := ⟨wr.heap.size, 1, none⟩) (Nat.lt_succ_self _)).trans (cell_new0 _ _ _ _)
          have b2 : wx.cell? ⟨wr.heap.size, 2, none⟩ = some (.int .i64 x.b) := (hwx.cell (p := ⟨wr.heap.size, 2, none⟩) (Nat.lt_succ_self _)).trans (cell_new0 _ _ _ _)
          have hbx : Below wr.heap.size wr wx := ((Below.refl _ _).alloc (Nat.le_refl _) _).trans (hwx.mono (Nat.le_succ _))
          rcases usesN_cases x.op with hu | hu | hu
          · have HU : Hid (∀ W, Calls Tryd.prog 63 #[.int .u8 x.op] W fun e w' => e = .returned (.int .i64 0) ∧ W = w') := fun W => (uses_any x.op W (by omega) (by omega)).mono fun e w' ⟨he, hw⟩ => ⟨by rw [he, hu], hw⟩
            have HLN : Hid (x.line = .string ⟨(opName x.op ).toArray⟩) := by
              have : x.line = .string ⟨(lineOf x.op x.a x.b).toArray⟩ := rfl
              show _ = _
              rw [this, lineOf, if_pos h17, hu]
              simp
            clear hu
            go_upto_region 8 with fail
            go_cut [35, 36, 37] (fun s35 s36 s37 wy => ∃ g2 : Nat, s35 = .slice (some ⟨g2, 0, none⟩) 0 2 ∧ s36 = .int .i64 0 ∧ s37 = .int .i64 0 ∧ wy.cell? ⟨g2, 0, none⟩ = some (.int .i64 x.a) ∧ wy.cell? ⟨g2, 1, none⟩ = some (.int .i64 x.b) ∧ Below wx.heap.size wx wy ∧ g2 < wy.heap.size)
            case first =>
              go_region_held3 (fun w' => w'.cell? ⟨wr.heap.size, 0, none⟩ = some (.int .u8 x.op) ∧ w'.cell? ⟨wr.heap.size, 1, none⟩ = some (.int .i64 x.a) ∧ w'.cell? ⟨wr.heap.size, 2, none⟩ = some (.int .i64 x.b)) (go_keep) (first | (go_at_call 63; refine (HU.out _).mono ?_; rintro e w' ⟨rfl, rfl⟩))
              all_goals (go_wp2_with fail; go_meet; exact ⟨wx.heap.size, rfl, rfl, rfl, cell_new0 _ _ _ _, cell_new0 _ _ _ _, below_new0 _ _, size_new0 _ _⟩)
            case rest =>
              obtain ⟨wy, rfl⟩ : ∃ x : World, x = wc := ⟨_, rfl⟩
              obtain ⟨g2, rfl, rfl, rfl, ca, cb, hwy, hg2⟩ := hcut
              have hsy := hwy.size
              have hbw : Below w.heap.size w wy := (hbel.trans (hbx.mono hsz)).trans (hwy.mono (by omega))
              have hry : Below wr.heap.size wr wy := hbx.trans (hwy.mono (by omega))
              have hty := ht.below hbw
              go_wp2_with fail
              refine wp_loop_rounds 1 ?_
              rw [rounds_succ]
              have hownE := ownsRow_old hown hry
              have hsE : w.heap.size ≤ wy.heap.size := by omega
              go_wp2_with (first | (at_builtin; refine wpList_append_own _ rfl (.tmp 47) (.tmp 49) 58 rfl w.heap.size 9 i0 (.string ⟨#[]⟩) 1 16 Tryd.underlying58 hi hz0 hz1 hz2 rfl (by decide) _ k _ rfl (hownE.alloc _) ⟨(wy).heap.size, 0, none⟩ 1 1 [_] rfl rfl (cell_one_new _ _ _) (one_cell _ rfl) (by unfold maxLen; omega) (by omega) (by rw [World.size_alloc]; exact Nat.le_succ_of_le hsE) ?_; intro v' w9 hown9 hgrow _; have hbel9 := below_app hbw hsE hownE hgrow))
              go_roundw
              case rel =>
                refine ⟨k + 1, by omega, by go_num, ?_, by assumption⟩
                rw [Hxs.out, HLN.out]
                assumption
              case measure => simp [intOf]; omega
          · have HU : Hid (∀ W, Calls Tryd.prog 63 #[.int .u8 x.op] W fun e w' => e = .returned (.int .i64 1) ∧ W = w') := fun W => (uses_any x.op W (by omega) (by omega)).mono fun e w' ⟨he, hw⟩ => ⟨by rw [he, hu], hw⟩
            have HLN : Hid (x.line = .string ⟨(opName x.op ++ (32 :: Lib.itoa x.a)).toArray⟩) := by
              have : x.line = .string ⟨(lineOf x.op x.a x.b).toArray⟩ := rfl
              show _ = _
              rw [this, lineOf, if_pos h17, hu]
              simp
            clear hu
            go_upto_region 8 with fail
            go_cut [35, 36, 37] (fun s35 s36 s37 wy => ∃ g2 : Nat, s35 = .slice (some ⟨g2, 0, none⟩) 1 2 ∧ s36 = .int .i64 1 ∧ s37 = .int .i64 0 ∧ wy.cell? ⟨g2, 0, none⟩ = some (.int .i64 x.a) ∧ wy.cell? ⟨g2, 1, none⟩ = some (.int .i64 x.b) ∧ Below wx.heap.size wx wy ∧ g2 < wy.heap.size)
            case first =>
              go_region_held3 (fun w' => w'.cell? ⟨wr.heap.size, 0, none⟩ = some (.int .u8 x.op) ∧ w'.cell? ⟨wr.heap.size, 1, none⟩ = some (.int .i64 x.a) ∧ w'.cell? ⟨wr.heap.size, 2, none⟩ = some (.int .i64 x.b)) (go_keep) (first | (go_at_call 63; refine (HU.out _).mono ?_; rintro e w' ⟨rfl, rfl⟩))
              all_goals (go_wp2_with fail; go_meet; exact ⟨wx.heap.size, rfl, rfl, rfl, cell_new0 _ _ _ _, cell_new0 _ _ _ _, below_new0 _ _, size_new0 _ _⟩)
            case rest =>
              obtain ⟨wy, rfl⟩ : ∃ x : World, x = wc := ⟨_, rfl⟩
              obtain ⟨g2, rfl, rfl, rfl, ca, cb, hwy, hg2⟩ := hcut
              have hsy := hwy.size
              have hbw : Below w.heap.size w wy := (hbel.trans (hbx.mono hsz)).trans (hwy.mono (by omega))
              have hry : Below wr.heap.size wr wy := hbx.trans (hwy.mono (by omega))
              have hty := ht.below hbw
              go_wp2_with fail
              refine wp_loop_rounds 2 ?_
              rw [rounds_succ]
              go_wp2_with fail
              refine (itoa_any x.a _ ha.1 ha.2 hty).mono ?_
              rintro e w3 ⟨rfl, hb3⟩
              obtain ⟨hc3, hf3⟩ := bcell hb3
              have hs3 := hb3.size
              have hLa := Lib.itoa_length_le x.a ha.1 ha.2
              have ht3 := hty.below hb3
              have hbw3 : Below w.heap.size w w3 := hbw.trans (hb3.mono (by omega))
              have hry3 : Below wr.heap.size wr w3 := hry.trans (hb3.mono (by omega))
              go_wp2_with fail
              rw [rounds_succ]
              have hownE := ownsRow_old hown hry3
              have hsE : w.heap.size ≤ w3.heap.size := by omega
              go_wp2_with (first | (at_builtin; refine wpList_append_own _ rfl (.tmp 47) (.tmp 49) 58 rfl w.heap.size 9 i0 (.string ⟨#[]⟩) 1 16 Tryd.underlying58 hi hz0 hz1 hz2 rfl (by decide) _ k _ rfl (hownE.alloc _) ⟨(w3).heap.size, 0, none⟩ 1 1 [_] rfl rfl (cell_one_new _ _ _) (one_cell _ rfl) (by unfold maxLen; omega) (by omega) (by rw [World.size_alloc]; exact Nat.le_succ_of_le hsE) ?_; intro v' w9 hown9 hgrow _; have hbel9 := below_app hbw3 hsE hownE hgrow))
              go_roundw
              case rel =>
                refine ⟨k + 1, by omega, by go_num, ?_, by assumption⟩
                rw [Hxs.out, HLN.out]
                rw [← bs_eq1]; assumption
              case measure => simp [intOf]; omega
          · have HU : Hid (∀ W, Calls Tryd.prog 63 #[.int .u8 x.op] W fun e w' => e = .returned (.int .i64 2) ∧ W = w') := fun W => (uses_any x.op W (by omega) (by omega)).mono fun e w' ⟨he, hw⟩ => ⟨by rw [he, hu], hw⟩
            have HLN : Hid (x.line = .string ⟨(opName x.op ++ ((32 :: Lib.itoa x.a) ++ (32 :: Lib.itoa x.b))).toArray⟩) := by
              have : x.line = .string ⟨(lineOf x.op x.a x.b).toArray⟩ := rfl
              show _ = _
              rw [this, lineOf, if_pos h17, hu]
              simp
            clear hu
            go_upto_region 8 with fail
            go_cut [35, 36, 37] (fun s35 s36 s37 wy => ∃ g2 : Nat, s35 = .slice (some ⟨g2, 0, none⟩) 2 2 ∧ s36 = .int .i64 2 ∧ s37 = .int .i64 0 ∧ wy.cell? ⟨g2, 0, none⟩ = some (.int .i64 x.a) ∧ wy.cell? ⟨g2, 1, none⟩ = some (.int .i64 x.b) ∧ Below wx.heap.size wx wy ∧ g2 < wy.heap.size)
            case first =>
              go_region_held3 (fun w' => w'.cell? ⟨wr.heap.size, 0, none⟩ = some (.int .u8 x.op) ∧ w'.cell? ⟨wr.heap.size, 1, none⟩ = some (.int .i64 x.a) ∧ w'.cell? ⟨wr.heap.size, 2, none⟩ = some (.int .i64 x.b)) (go_keep) (first | (go_at_call 63; refine (HU.out _).mono ?_; rintro e w' ⟨rfl, rfl⟩))
              all_goals (go_wp2_with fail; go_meet; exact ⟨wx.heap.size, rfl, rfl, rfl, cell_new0 _ _ _ _, cell_new0 _ _ _ _, below_new0 _ _, size_new0 _ _⟩)
            case rest =>
              obtain ⟨wy, rfl⟩ : ∃ x : World, x = wc := ⟨_, rfl⟩
              obtain ⟨g2, rfl, rfl, rfl, ca, cb, hwy, hg2⟩ := hcut
              have hsy := hwy.size
              have hbw : Below w.heap.size w wy := (hbel.trans (hbx.mono hsz)).trans (hwy.mono (by omega))
              have hry : Below wr.heap.size wr wy := hbx.trans (hwy.mono (by omega))
              have hty := ht.below hbw
              go_wp2_with fail
              refine wp_loop_rounds 3 ?_
              rw [rounds_succ]
              go_wp2_with fail
              refine (itoa_any x.a _ ha.1 ha.2 hty).mono ?_
              rintro e w3 ⟨rfl, hb3⟩
              obtain ⟨hc3, hf3⟩ := bcell hb3
              have hs3 := hb3.size
              have hLa := Lib.itoa_length_le x.a ha.1 ha.2
              have ht3 := hty.below hb3
              have hbw3 : Below w.heap.size w w3 := hbw.trans (hb3.mono (by omega))
              have hry3 : Below wr.heap.size wr w3 := hry.trans (hb3.mono (by omega))
              go_wp2_with fail
              rw [rounds_succ]
              go_wp2_with fail
              refine (itoa_any x.b _ hb.1 hb.2 ht3).mono ?_
              rintro e w4 ⟨rfl, hb4⟩
              have hs4 := hb4.size
              have hLb := Lib.itoa_length_le x.b hb.1 hb.2
              have hbw4 : Below w.heap.size w w4 := hbw3.trans (hb4.mono (by omega))
              have hry4 : Below wr.heap.size wr w4 := hry3.trans (hb4.mono (by omega))
              go_wp2_with fail
              rw [rounds_succ]
              have hownE := ownsRow_old hown hry4
              have hsE : w.heap.size ≤ w4.heap.size := by omega
              go_wp2_with (first | (at_builtin; refine wpList_append_own _ rfl (.tmp 47) (.tmp 49) 58 rfl w.heap.size 9 i0 (.string ⟨#[]⟩) 1 16 Tryd.underlying58 hi hz0 hz1 hz2 rfl (by decide) _ k _ rfl (hownE.alloc _) ⟨(w4).heap.size, 0, none⟩ 1 1 [_] rfl rfl (cell_one_new _ _ _) (one_cell _ rfl) (by unfold maxLen; omega) (by omega) (by rw [World.size_alloc]; exact Nat.le_succ_of_le hsE) ?_; intro v' w9 hown9 hgrow _; have hbel9 := below_app hbw4 hsE hownE hgrow))
              go_roundw
              case rel =>
                refine ⟨k + 1, by omega, by go_num, ?_, by assumption⟩
                rw [Hxs.out, HLN.out]
                rw [← bs_eq2]; assumption
              case measure => simp [intOf]; omega
      · have hL : Hid (x.line = .string ⟨[63].toArray⟩) := by
          show x.line = _
          unfold Ins.line lineOf
          rw [if_neg h17]
        have hownT := hown.alloc (.cells #[.int .u8 x.op, .int .i64 x.a, .int .i64 x.b] 33)
        have hsT : w.heap.size ≤ (wr.alloc (.cells #[.int .u8 x.op, .int .i64 x.a, .int .i64 x.b] 33)).heap.size := by rw [World.size_alloc]; omega
        go_wp2_with (first | (at_builtin; refine wpList_append_own _ rfl (.tmp 19) (.tmp 20) 58 rfl w.heap.size 9 i0 (.string ⟨#[]⟩) 1 16 Tryd.underlying58 hi hz0 hz1 hz2 rfl (by decide) _ k _ rfl (hownT.alloc _) ⟨wr.heap.size + 1, 0, none⟩ 1 1 [_] rfl rfl (cell_one_at _ _ _ _ (World.size_alloc _ _)) (one_cell _ rfl) (by unfold maxLen; omega) (by omega) (by rw [World.size_alloc]; exact Nat.le_succ_of_le hsT) ?_; intro v' w9 hown9 hgrow _; have hbel9 := below_app (hbel.alloc hsz _) hsT hownT hgrow))
        go_roundw
        case rel =>
          refine ⟨k + 1, by omega, by go_num, ?_, by assumption⟩
          rw [Hxs.out, hL.out]
          assumption
        case measure => simp [intOf]; omega
    · go_wp2_with fail
      go_ret
      obtain rfl : k = xs.length := by omega
      exact ⟨_, rfl, by simpa using hown, hbel⟩
end Go.Proofs.YtaijdpckkobofaaDoor
