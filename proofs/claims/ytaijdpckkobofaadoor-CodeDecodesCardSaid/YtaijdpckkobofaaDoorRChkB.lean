/- ref18.Check. (wip/gen_rchk.py) -/
import Derived.Test.YtaijdpckkobofaaDoorRChkD
import Derived.Deep.CutBlock
namespace Go.Proofs.YtaijdpckkobofaaDoor
open Go.RowKit
set_option linter.unusedVariables false

set_option maxRecDepth 100000 in
set_option maxHeartbeats 8000000 in
theorem rcheck_bad (p : PProg) (ca ma ra sa : Option Addr) (cc mc rc sc : Nat) (w : World) (h : PrgA w p ca cc ma mc ra rc sa sc) (hbad0 : opsOk p = false ∨ (f1 p && f2 p && f3 p && f4 p) = false) :
    Calls Tryd.prog 56 #[prgV p ca cc ma mc ra rc sa sc] w fun e w' => e = .returned (.int .i64 (checkP p : Int)) ∧ Below w.heap.size w w' := by
  obtain ⟨rv, hrv⟩ : ∃ rv : Nat, checkP p = rv := ⟨_, rfl⟩
  rw [hrv]
  have HRV := Lib.hid (hrv.symm.trans (checkP_of p))
  have HBD := Lib.hid hbad0
  clear hbad0
  have HP := Lib.hid h
  have hlc := h.lc
  have hlm := h.lm
  have hlr := h.lr
  have hls := h.ls
  obtain ⟨n0, hn0⟩ : ∃ n, p.code.length = n := ⟨_, rfl⟩
  obtain ⟨n1, hn1⟩ : ∃ n, p.msgs.length = n := ⟨_, rfl⟩
  obtain ⟨n2, hn2⟩ : ∃ n, p.routes.length = n := ⟨_, rfl⟩
  obtain ⟨n3, hn3⟩ : ∃ n, p.sends.length = n := ⟨_, rfl⟩
  unfold prgV
  rw [hn0] at hlc
  rw [hn1] at hlm
  rw [hn2] at hlr
  rw [hn3] at hls
  rw [hn0, hn1, hn2, hn3]
  obtain ⟨w1, q, hw1, hq⟩ : ∃ w1 q, w.alloc (.cells #[.slice ca n0 cc, .slice ma n1 mc, .slice ra n2 rc, .slice sa n3 sc, .int .i64 p.vars, .int .i64 p.stack, .int .i64 p.blocks, .int .i64 p.fuel] 28) = w1 ∧ w.heap.size = q := ⟨_, _, rfl, rfl⟩
  have hb1 : Below w.heap.size w w1 := by rw [← hw1]; exact (Below.refl _ _).alloc (Nat.le_refl _) _
  have hh1 : w1.heap[q]? = some (.cells #[.slice ca n0 cc, .slice ma n1 mc, .slice ra n2 rc, .slice sa n3 sc, .int .i64 p.vars, .int .i64 p.stack, .int .i64 p.blocks, .int .i64 p.fuel] 28 (0, 0)) := by rw [← hw1, ← hq]; exact heap_new _ _
  have hql : q < w1.heap.size := (Array.getElem?_eq_some_iff.1 hh1).1
  have HQ := Lib.hid hh1
  have HB1 := Lib.hid hb1
  have hs1 := hb1.size
  have HN0 := Lib.hid hn0
  have HN1 := Lib.hid hn1
  have HN2 := Lib.hid hn2
  have HN3 := Lib.hid hn3
  have HWE := Lib.hid hw1
  have HQE := Lib.hid hq
  clear h hrv hh1 hb1 hn0 hn1 hn2 hn3 hw1 hq
  go_enter Tryd.func56, Tryd.ntmps56
  go_upto_region 1 with fail
  rw [HWE.out, HQE.out]
  clear HWE HQE
  go_upto_block 0 with fail
  go_cut [] (fun wx => opsOk p = true ∧ w1 = wx)
  case first => as_aux_lemma =>
    have d0 : w1.cell? ⟨q, 0, none⟩ = some (.slice ca n0 cc) := (Lib.cell_of_heap HQ.out _).trans rfl
    go_wp2_with fail
    go_loop [3] (fun ix => ∃ k : Nat, k ≤ n0 ∧ ix = .int .i64 k ∧ (p.code.take k).all (fun i => decide (i.op ≤ 16)) = true) (fun ix => n0 - (intOf ix).toNat)
    case atStart => exact ⟨0, by omega, rfl, rfl⟩
    case round =>
      obtain ⟨k, hk, rfl, hops⟩ := hrel
      have HOPS := Lib.hid hops
      clear hops
      by_cases hlt : k < n0
      · obtain ⟨x, hx⟩ : ∃ x, p.code[k]? = some x := ⟨_, List.getElem?_eq_getElem (by rw [HN0.out]; exact hlt)⟩
        obtain ⟨hop, g, o, ha, hg, hc⟩ := HP.out.code k x hx
        obtain ⟨op, a, b⟩ := x
        have hop' : op ≤ 255 := hop
        have c0 : w1.cell? ⟨g, o + k * 3, none⟩ = some (.int .u8 op) := (HB1.out.cell (p := ⟨g, _, none⟩) hg).trans (hc 0 _ rfl)
        subst ha
        have HX := Lib.hid hx
        clear hx hc hop
        by_cases hgt : 16 < op
        · have HR : Hid (rv = 1) := Lib.hid (by
            rw [HRV.out]
            have : opsOk p = false := all_bad HX.out (by simp; omega)
            rw [this]; rfl)
          go_wp2_with fail
          go_ret
          exact ⟨ret_int (by rw [HR.out]; rfl), HB1.out⟩
        · have HOPN : Hid ((p.code.take (k + 1)).all (fun i => decide (i.op ≤ 16)) = true) := Lib.hid (all_take_succ HX.out HOPS.out (by simp; omega))
          go_wp2_with fail
          go_round
          case rel => exact ⟨k + 1, by omega, by go_num, HOPN.out⟩
          case measure => simp [intOf]; omega
      · go_wp2_with fail
        go_meet
        exact ⟨by unfold opsOk; rw [← all_end (show p.code.length ≤ k by rw [HN0.out]; omega)]; exact HOPS.out, rfl⟩
  case rest =>
    obtain ⟨hops, rfl⟩ := hcut
    have HOP := Lib.hid hops
    clear hops
    go_upto_block 2 with fail
    go_cut [] (fun wx => f1 p = true ∧ Below w1.heap.size w1 wx)
    case first => as_aux_lemma =>
      go_wp2_with fail
      go_loopw [4] (fun ix wr => ∃ k : Nat, k ≤ n0 ∧ ix = .int .i64 k ∧ (p.code.take k).all insOk = true ∧ Below w1.heap.size w1 wr) (fun ix _ => n0 - (intOf ix).toNat)
      case atStart => exact ⟨0, by omega, rfl, rfl, Below.refl _ _⟩
      case round =>
        obtain ⟨wo, hwo⟩ : ∃ wo : World, wr = wo := ⟨_, rfl⟩
        obtain ⟨k, hk, rfl, hall, hbel⟩ := hrel
        rw [hwo] at hbel ⊢
        clear hwo
        have HALL := Lib.hid hall
        have HB := Lib.hid hbel
        have d0 : wo.cell? ⟨q, 0, none⟩ = some (.slice ca n0 cc) := (hbel.cell (p := ⟨q, 0, none⟩) hql).trans ((Lib.cell_of_heap HQ.out _).trans rfl)
        clear hall
        by_cases hlt : k < n0
        · obtain ⟨x, hx⟩ : ∃ x, p.code[k]? = some x := ⟨_, List.getElem?_eq_getElem (by rw [HN0.out]; exact hlt)⟩
          obtain ⟨hop, g, o, ha, hg, hc⟩ := HP.out.code k x hx
          obtain ⟨op, a, b⟩ := x
          have hg1 : g < w1.heap.size := by omega
          have hgo : g < wo.heap.size := by have := hbel.size; omega
          have c0 : wo.cell? ⟨g, o + k * 3, none⟩ = some (.int .u8 op) := (hbel.cell (p := ⟨g, _, none⟩) hg1).trans ((HB1.out.cell (p := ⟨g, _, none⟩) hg).trans (hc 0 _ rfl))
          have c1 : wo.cell? ⟨g, o + k * 3 + 1, none⟩ = some (.int .i64 a) := (hbel.cell (p := ⟨g, _, none⟩) hg1).trans ((HB1.out.cell (p := ⟨g, _, none⟩) hg).trans (hc 1 _ rfl))
          have c2 : wo.cell? ⟨g, o + k * 3 + 2, none⟩ = some (.int .i64 b) := (hbel.cell (p := ⟨g, _, none⟩) hg1).trans ((HB1.out.cell (p := ⟨g, _, none⟩) hg).trans (hc 2 _ rfl))
          subst ha
          have hop16 : op ≤ 16 := by
            have := HOP.out
            unfold opsOk at this
            rw [List.all_eq_true] at this
            simpa using this _ (List.mem_of_getElem? hx)
          have HX := Lib.hid hx
          obtain ⟨w2, r, hw2, hr⟩ : ∃ w2 r, wo.alloc (.cells #[.int .u8 op, .int .i64 a, .int .i64 b] 33) = w2 ∧ wo.heap.size = r := ⟨_, _, rfl, rfl⟩
          have hb2 : Below wo.heap.size wo w2 := by rw [← hw2]; exact (Below.refl _ _).alloc (Nat.le_refl _) _
          have hh2 : w2.heap[r]? = some (.cells #[.int .u8 op, .int .i64 a, .int .i64 b] 33 (0, 0)) := by rw [← hw2, ← hr]; exact heap_new _ _
          have e0 : w2.cell? ⟨r, 0, none⟩ = some (.int .u8 op) := (Lib.cell_of_heap hh2 _).trans rfl
          have e1 : w2.cell? ⟨r, 1, none⟩ = some (.int .i64 a) := (Lib.cell_of_heap hh2 _).trans rfl
          have e2 : w2.cell? ⟨r, 2, none⟩ = some (.int .i64 b) := (Lib.cell_of_heap hh2 _).trans rfl
          have HB2 := Lib.hid (HB.out.trans (hb2.mono HB.out.size))
          have HUSE := Lib.hid (ruses_any (op : Int) w2 (by omega) (by omega))
          have HW2 := Lib.hid hw2
          have HR := Lib.hid hr
          clear hx hc hbel hop hb2 hh2 hw2 hr
          go_upto_region 10 with fail
          rw [HW2.out, HR.out]
          clear HW2 HR c0 c1 c2
          obtain ⟨kb, hkb⟩ : ∃ kb, ((op : Int) == 1) = kb := ⟨_, rfl⟩
          go_upto_if 44 with fail
          have HKB := Lib.hid hkb
          clear hkb
          go_cut [6, 7] (fun s6 s7 wx => s6 = .int .i64 (insLo op) ∧ s7 = .int .i64 (insHi op) ∧ w2 = wx)
          case first => as_aux_lemma =>
            cases kb
            · have h1 : ¬ op = 1 := by have := HKB.out; rw [beq_eq_false_iff_ne] at this; omega
              have HLO := Lib.hid (show insLo op = 0 by unfold insLo; rw [if_neg h1])
              have HHI := Lib.hid (show insHi op = 65535 by unfold insHi; rw [if_neg h1])
              clear h1
              go_wp2_with fail
              go_meet
              exact ⟨by rw [HLO.out], by rw [HHI.out], rfl⟩
            · have h1 : op = 1 := by have := HKB.out; rw [beq_iff_eq] at this; omega
              have HLO := Lib.hid (show insLo op = -2147483648 by unfold insLo; rw [if_pos h1])
              have HHI := Lib.hid (show insHi op = 2147483647 by unfold insHi; rw [if_pos h1])
              clear h1
              go_wp2_with fail
              go_meet
              exact ⟨by rw [HLO.out], by rw [HHI.out], rfl⟩
          case rest =>
            obtain ⟨rfl, rfl, rfl⟩ := hcut
            have HBAD := Lib.hid (insBad_ok op a b)
            obtain ⟨lo, hlo⟩ : ∃ lo, insLo op = lo := ⟨_, rfl⟩
            obtain ⟨hi, hhi⟩ : ∃ hi, insHi op = hi := ⟨_, rfl⟩
            rw [hlo, hhi] at HBAD ⊢
            obtain ⟨u, hu⟩ : ∃ u, usesP op = u := ⟨_, rfl⟩
            have hun : usesN (op : Int) = (u : Int) := by rw [usesN_P, hu]
            rw [hu] at HBAD
            rw [hun] at HUSE
            have hu2 : u ≤ 2 := by rw [← hu]; unfold usesP; (repeat' split) <;> omega
            clear hlo hhi hu hun
            go_upto_region 13 with fail
            go_upto_region 14 with (go_at_call 102; refine HUSE.out.mono ?_; rintro e w3 ⟨rfl, rfl⟩)
            obtain ⟨bad, hbad⟩ : ∃ bad, insBad u a b lo hi = bad := ⟨_, rfl⟩
            have HBB := Lib.hid hbad
            rw [hbad] at HBAD
            clear hbad
            obtain ⟨ui, hui⟩ : ∃ ui : Int, (u : Int) = ui := ⟨_, rfl⟩
            rw [hui]
            have HUI := Lib.hid hui
            clear hui
            go_cut [85] (fun s wx => s = .bool bad ∧ w2 = wx)
            case first => as_aux_lemma =>
              have hui := HUI.out
              obtain ⟨b1, hb1⟩ : ∃ z, decide (ui < 1) = z := ⟨_, rfl⟩
              obtain ⟨b2, hb2⟩ : ∃ z, (a != 0) = z := ⟨_, rfl⟩
              obtain ⟨b3, hb3⟩ : ∃ z, decide (ui < 2) = z := ⟨_, rfl⟩
              obtain ⟨b4, hb4⟩ : ∃ z, (b != 0) = z := ⟨_, rfl⟩
              obtain ⟨b5, hb5⟩ : ∃ z, decide (a < lo) = z := ⟨_, rfl⟩
              obtain ⟨b6, hb6⟩ : ∃ z, decide (hi < a) = z := ⟨_, rfl⟩
              obtain ⟨b7, hb7⟩ : ∃ z, decide (b < 0) = z := ⟨_, rfl⟩
              obtain ⟨b8, hb8⟩ : ∃ z, decide (65535 < b) = z := ⟨_, rfl⟩
              have HBV := Lib.hid (show insBad u a b lo hi = ((b1 && b2) || (b3 && b4) || b5 || b6 || b7 || b8) by unfold insBad; rw [hui, hb1, hb2, hb3, hb4, hb5, hb6, hb7, hb8])
              clear hui
              cases b1
              · cases b3
                · cases b5
                  · cases b6
                    · cases b7
                      · cases b8
                        · go_wp2_with fail
                          go_meet
                          exact ⟨by rw [← HBB.out, HBV.out]; rfl, rfl⟩
                        · go_wp2_with fail
                          go_meet
                          exact ⟨by rw [← HBB.out, HBV.out]; rfl, rfl⟩
                      · go_wp2_with fail
                        go_meet
                        exact ⟨by rw [← HBB.out, HBV.out]; rfl, rfl⟩
                    · go_wp2_with fail
                      go_meet
                      exact ⟨by rw [← HBB.out, HBV.out]; rfl, rfl⟩
                  · go_wp2_with fail
                    go_meet
                    exact ⟨by rw [← HBB.out, HBV.out]; rfl, rfl⟩
                · cases b4
                  · cases b5
                    · cases b6
                      · cases b7
                        · cases b8
                          · go_wp2_with fail
                            go_meet
                            exact ⟨by rw [← HBB.out, HBV.out]; rfl, rfl⟩
                          · go_wp2_with fail
                            go_meet
                            exact ⟨by rw [← HBB.out, HBV.out]; rfl, rfl⟩
                        · go_wp2_with fail
                          go_meet
                          exact ⟨by rw [← HBB.out, HBV.out]; rfl, rfl⟩
                      · go_wp2_with fail
                        go_meet
                        exact ⟨by rw [← HBB.out, HBV.out]; rfl, rfl⟩
                    · go_wp2_with fail
                      go_meet
                      exact ⟨by rw [← HBB.out, HBV.out]; rfl, rfl⟩
                  · go_wp2_with fail
                    go_meet
                    exact ⟨by rw [← HBB.out, HBV.out]; rfl, rfl⟩
              · cases b2
                · cases b3
                  · cases b5
                    · cases b6
                      · cases b7
                        · cases b8
                          · go_wp2_with fail
                            go_meet
                            exact ⟨by rw [← HBB.out, HBV.out]; rfl, rfl⟩
                          · go_wp2_with fail
                            go_meet
                            exact ⟨by rw [← HBB.out, HBV.out]; rfl, rfl⟩
                        · go_wp2_with fail
                          go_meet
                          exact ⟨by rw [← HBB.out, HBV.out]; rfl, rfl⟩
                      · go_wp2_with fail
                        go_meet
                        exact ⟨by rw [← HBB.out, HBV.out]; rfl, rfl⟩
                    · go_wp2_with fail
                      go_meet
                      exact ⟨by rw [← HBB.out, HBV.out]; rfl, rfl⟩
                  · cases b4
                    · cases b5
                      · cases b6
                        · cases b7
                          · cases b8
                            · go_wp2_with fail
                              go_meet
                              exact ⟨by rw [← HBB.out, HBV.out]; rfl, rfl⟩
                            · go_wp2_with fail
                              go_meet
                              exact ⟨by rw [← HBB.out, HBV.out]; rfl, rfl⟩
                          · go_wp2_with fail
                            go_meet
                            exact ⟨by rw [← HBB.out, HBV.out]; rfl, rfl⟩
                        · go_wp2_with fail
                          go_meet
                          exact ⟨by rw [← HBB.out, HBV.out]; rfl, rfl⟩
                      · go_wp2_with fail
                        go_meet
                        exact ⟨by rw [← HBB.out, HBV.out]; rfl, rfl⟩
                    · go_wp2_with fail
                      go_meet
                      exact ⟨by rw [← HBB.out, HBV.out]; rfl, rfl⟩
                · go_wp2_with fail
                  go_meet
                  exact ⟨by rw [← HBB.out, HBV.out]; rfl, rfl⟩

            case rest =>
              obtain ⟨rfl, rfl⟩ := hcut
              cases bad
              · have HIO := Lib.hid (show insOk ⟨op, a, b⟩ = true from rnot_f HBAD.out)
                go_wp2_with fail
                go_roundw
                case rel => exact ⟨k + 1, by omega, by go_num, all_take_succ HX.out HALL.out HIO.out, HB2.out⟩
                case measure => simp [intOf]; omega
              · have HIO := Lib.hid (show insOk ⟨op, a, b⟩ = false from rnot_t HBAD.out)
                have HR : Hid (rv = 3) := Lib.hid (by
                  rw [HRV.out, HOP.out]
                  have : f1 p = false := all_bad HX.out HIO.out
                  rw [this]; rfl)
                go_wp2_with fail
                go_ret
                exact ⟨ret_int (by rw [HR.out]; rfl), HB1.out.trans (HB2.out.mono hs1)⟩
        · go_wp2_with fail
          go_meet
          exact ⟨by unfold f1; rw [← all_end (show p.code.length ≤ k by rw [HN0.out]; omega)]; exact HALL.out, HB.out⟩
    case rest =>
      obtain ⟨hf1, hbel1⟩ := hcut
      obtain ⟨w4, hw4⟩ : ∃ z : World, wc = z := ⟨_, rfl⟩
      rw [hw4] at hbel1 ⊢
      clear hw4
      have HF1 := Lib.hid hf1
      have HB4 := Lib.hid hbel1
      have h14 := hbel1.size
      have d1 : w4.cell? ⟨q, 1, none⟩ = some (.slice ma n1 mc) := (hbel1.cell (p := ⟨q, 1, none⟩) hql).trans ((Lib.cell_of_heap HQ.out _).trans rfl)
      clear hf1 hbel1
      go_upto_block 4 with fail
      go_cut [] (fun wx => f2 p = true ∧ w4 = wx)
      case first => as_aux_lemma =>
        go_wp2_with fail
        go_loop [9] (fun ix => ∃ k : Nat, k ≤ n1 ∧ ix = .int .i64 k ∧ (p.msgs.take k).all (fun m => decide (m.length ≤ 7200)) = true) (fun ix => n1 - (intOf ix).toNat)
        case atStart => exact ⟨0, by omega, rfl, rfl⟩
        case round =>
          obtain ⟨k, hk, rfl, hall⟩ := hrel
          have HALL := Lib.hid hall
          clear hall
          by_cases hlt : k < n1
          · obtain ⟨x, hx⟩ : ∃ x, p.msgs[k]? = some x := ⟨_, List.getElem?_eq_getElem (by rw [HN1.out]; exact hlt)⟩
            obtain ⟨bp, bc, ⟨g, o, ha, hg, hc⟩, _, hbc⟩ := HP.out.msgs k x hx
            have c0 : w4.cell? ⟨g, o + k, none⟩ = some (.slice bp x.length bc) := (HB4.out.cell (p := ⟨g, _, none⟩) (by show g < _; omega)).trans ((HB1.out.cell (p := ⟨g, _, none⟩) hg).trans (by simpa using hc 0 _ rfl))
            subst ha
            have HX := Lib.hid hx
            obtain ⟨xl, hxl⟩ : ∃ xl, x.length = xl := ⟨_, rfl⟩
            rw [hxl] at c0
            have HXL := Lib.hid hxl
            clear hx hc hbc hxl
            by_cases hxs : xl ≤ 7200
            · go_wp2_with fail
              go_round
              case rel => exact ⟨k + 1, by omega, by go_num, all_take_succ HX.out HALL.out (by rw [HXL.out]; simpa using hxs)⟩
              case measure => simp [intOf]; omega
            · have HR : Hid (rv = 3) := Lib.hid (by
                rw [HRV.out, HOP.out, HF1.out]
                have : f2 p = false := all_bad HX.out (by rw [HXL.out]; simpa using hxs)
                rw [this]; rfl)
              go_wp2_with fail
              go_ret
              exact ⟨ret_int (by rw [HR.out]; rfl), HB1.out.trans (HB4.out.mono hs1)⟩
          · go_wp2_with fail
            go_meet
            exact ⟨by unfold f2; rw [← all_end (show p.msgs.length ≤ k by rw [HN1.out]; omega)]; exact HALL.out, rfl⟩
      case rest =>
        obtain ⟨hf2, rfl⟩ := hcut
        have HF2 := Lib.hid hf2
        clear hf2 d1
        go_upto_block 6 with fail
        go_cut [] (fun wx => f3 p = true ∧ Below w1.heap.size w1 wx)
        case first => as_aux_lemma =>
          go_wp2_with fail
          go_loopw [10] (fun ix wr => ∃ k : Nat, k ≤ n2 ∧ ix = .int .i64 k ∧ (p.routes.take k).all routeOk = true ∧ Below w1.heap.size w1 wr) (fun ix _ => n2 - (intOf ix).toNat)
          case atStart => exact ⟨0, by omega, rfl, rfl, HB4.out⟩
          case round =>
            obtain ⟨w5, hwo⟩ : ∃ w5 : World, wr = w5 := ⟨_, rfl⟩
            obtain ⟨k, hk, rfl, hall, hbel⟩ := hrel
            rw [hwo] at hbel ⊢
            clear hwo
            have HALL := Lib.hid hall
            have HB5 := Lib.hid hbel
            have h15 := hbel.size
            have d2 : w5.cell? ⟨q, 2, none⟩ = some (.slice ra n2 rc) := (hbel.cell (p := ⟨q, 2, none⟩) hql).trans ((Lib.cell_of_heap HQ.out _).trans rfl)
            clear hall
            by_cases hlt : k < n2
            · obtain ⟨x, hx⟩ : ∃ x, p.routes[k]? = some x := ⟨_, List.getElem?_eq_getElem (by rw [HN2.out]; exact hlt)⟩
              obtain ⟨bp, bc, ⟨g, o, ha, hg, hc⟩, hst, hbc⟩ := HP.out.routes k x hx
              have c0 : w5.cell? ⟨g, o + k, none⟩ = some (.slice bp x.length bc) := (hbel.cell (p := ⟨g, _, none⟩) (by show g < _; omega)).trans ((HB1.out.cell (p := ⟨g, _, none⟩) hg).trans (by simpa using hc 0 _ rfl))
              subst ha
              have HX := Lib.hid hx
              have HST5 := Lib.hid ((hst.below HB1.out).below hbel)
              have hxl := routes_len HP.out HX.out
              obtain ⟨xl, hxle⟩ : ∃ xl, x.length = xl := ⟨_, rfl⟩
              rw [hxle] at c0 hxl
              have HXL := Lib.hid hxle
              have hgw : g < w5.heap.size := by omega
              have hqw : q < w5.heap.size := by omega
              have HR3 : Hid (routeOk x = false → rv = 3) := Lib.hid (fun hx0 => by
                rw [HRV.out, HOP.out, HF1.out, HF2.out]
                have : f3 p = false := all_bad HX.out hx0
                rw [this]; rfl)
              clear hx hc hbc hst hbel hxle
              by_cases hl1 : xl < 1
              · have HR := Lib.hid (HR3.out (by unfold routeOk; rw [HXL.out]; simp; omega))
                go_wp2_with fail
                go_ret
                exact ⟨ret_int (by rw [HR.out]; rfl), HB1.out.trans (HB5.out.mono hs1)⟩
              · by_cases hl5 : 5 < xl
                · have HR := Lib.hid (HR3.out (by unfold routeOk; rw [HXL.out]; simp; omega))
                  go_wp2_with fail
                  go_ret
                  exact ⟨ret_int (by rw [HR.out]; rfl), HB1.out.trans (HB5.out.mono hs1)⟩
                · go_upto_block 8 with fail
                  all_goals
                    go_wp2_with fail
                    go_loopw [11] (fun ix wr => ∃ j : Nat, j ≤ xl ∧ ix = .int .i64 j ∧ (x.take j).all stopOk = true ∧ Below w5.heap.size w5 wr) (fun ix _ => xl - (intOf ix).toNat)
                    case atStart => exact ⟨0, by omega, rfl, rfl, Below.refl _ _⟩
                    case round =>
                      obtain ⟨wi, hwi⟩ : ∃ z : World, wr = z := ⟨_, rfl⟩
                      obtain ⟨j, hj, rfl, hall, hbi⟩ := hrel
                      rw [hwi] at hbi ⊢
                      clear hwi
                      have HALLJ := Lib.hid hall
                      have HBI := Lib.hid hbi
                      have h5i := hbi.size
                      have d2' : wi.cell? ⟨q, 2, none⟩ = some (.slice (some ⟨g, o, none⟩) n2 rc) := (hbi.cell (p := ⟨q, 2, none⟩) hqw).trans d2
                      have c0' : wi.cell? ⟨g, o + k, none⟩ = some (.slice bp xl bc) := (hbi.cell (p := ⟨g, _, none⟩) hgw).trans c0
                      clear hall d2 c0
                      by_cases hjl : j < xl
                      · obtain ⟨y, hy⟩ : ∃ y, x[j]? = some y := ⟨_, List.getElem?_eq_getElem (by rw [HXL.out]; exact hjl)⟩
                        obtain ⟨gs, os, ha2, hgs, hcs⟩ := HST5.out j y hy
                        obtain ⟨nm, dl, fl⟩ := y
                        have HY := Lib.hid hy
                        have hgsi : gs < wi.heap.size := by omega
                        obtain ⟨st, hst⟩ : ∃ st : ByteArray, (⟨nm.toArray⟩ : ByteArray) = st := ⟨_, rfl⟩
                        have y0 : wi.cell? ⟨gs, os + j * 3, none⟩ = some (.string st) := by rw [← hst]; exact (hbi.cell (p := ⟨gs, _, none⟩) hgs).trans (hcs 0 _ rfl)
                        have y1 : wi.cell? ⟨gs, os + j * 3 + 1, none⟩ = some (.int .i64 dl) := (hbi.cell (p := ⟨gs, _, none⟩) hgs).trans (hcs 1 _ rfl)
                        have y2 : wi.cell? ⟨gs, os + j * 3 + 2, none⟩ = some (.int .i64 fl) := (hbi.cell (p := ⟨gs, _, none⟩) hgs).trans (hcs 2 _ rfl)
                        obtain ⟨w6, r, hw6, hr⟩ : ∃ w6 r, wi.alloc (.cells #[.string st, .int .i64 dl, .int .i64 fl] 64) = w6 ∧ wi.heap.size = r := ⟨_, _, rfl, rfl⟩
                        have hb6 : Below wi.heap.size wi w6 := by rw [← hw6]; exact (Below.refl _ _).alloc (Nat.le_refl _) _
                        have hh6 : w6.heap[r]? = some (.cells #[.string st, .int .i64 dl, .int .i64 fl] 64 (0, 0)) := by rw [← hw6, ← hr]; exact heap_new _ _
                        have e0 : w6.cell? ⟨r, 0, none⟩ = some (.string st) := (Lib.cell_of_heap hh6 _).trans rfl
                        have e1 : w6.cell? ⟨r, 1, none⟩ = some (.int .i64 dl) := (Lib.cell_of_heap hh6 _).trans rfl
                        have e2 : w6.cell? ⟨r, 2, none⟩ = some (.int .i64 fl) := (Lib.cell_of_heap hh6 _).trans rfl
                        have HB6 := Lib.hid (HBI.out.trans (hb6.mono HBI.out.size))
                        obtain ⟨kn, hkn⟩ : ∃ kn, nameOk nm = kn := ⟨_, rfl⟩
                        have HNA := Lib.hid (rnamed_any st w6)
                        rw [show st.data.toList = nm by rw [← hst], hkn] at HNA
                        have HKN := Lib.hid hkn
                        have HW6 := Lib.hid hw6
                        have HRE := Lib.hid hr
                        subst ha2
                        clear hy hcs hbi hst hb6 hh6 hkn hw6 hr
                        go_upto_region 30 with fail
                        rw [HW6.out, HRE.out]
                        clear HW6 HRE y0 y1 y2 d2' c0'
                        obtain ⟨bad, hbad⟩ : ∃ bad, stopBad kn dl fl = bad := ⟨_, rfl⟩
                        have HBB := Lib.hid hbad
                        have HBO := Lib.hid (show bad = !(stopOk ⟨nm, dl, fl⟩) by rw [← hbad, ← HKN.out]; exact stopBad_ok nm dl fl)
                        clear hbad
                        go_cut [164] (fun s wx => s = .bool bad ∧ w6 = wx)
                        case first => as_aux_lemma =>
                          obtain ⟨b2, hb2⟩ : ∃ z, decide (dl < 0) = z := ⟨_, rfl⟩
                          obtain ⟨b3, hb3⟩ : ∃ z, decide (1000000 < dl) = z := ⟨_, rfl⟩
                          obtain ⟨b4, hb4⟩ : ∃ z, decide (fl < 0) = z := ⟨_, rfl⟩
                          obtain ⟨b5, hb5⟩ : ∃ z, decide (255 < fl) = z := ⟨_, rfl⟩
                          have HBV := Lib.hid (show stopBad kn dl fl = (!kn || b2 || b3 || b4 || b5) by unfold stopBad; rw [hb2, hb3, hb4, hb5])
                          cases kn
                          · go_wp2_with fail
                            refine HNA.out.mono ?_
                            rintro e w' ⟨rfl, rfl⟩
                            go_wp2_with fail
                            go_meet
                            exact ⟨by rw [← HBB.out, HBV.out]; rfl, rfl⟩
                          · cases b2
                            · cases b3
                              · cases b4
                                · cases b5
                                  · go_wp2_with fail
                                    refine HNA.out.mono ?_
                                    rintro e w' ⟨rfl, rfl⟩
                                    go_wp2_with fail
                                    go_meet
                                    exact ⟨by rw [← HBB.out, HBV.out]; rfl, rfl⟩
                                  · go_wp2_with fail
                                    refine HNA.out.mono ?_
                                    rintro e w' ⟨rfl, rfl⟩
                                    go_wp2_with fail
                                    go_meet
                                    exact ⟨by rw [← HBB.out, HBV.out]; rfl, rfl⟩
                                · go_wp2_with fail
                                  refine HNA.out.mono ?_
                                  rintro e w' ⟨rfl, rfl⟩
                                  go_wp2_with fail
                                  go_meet
                                  exact ⟨by rw [← HBB.out, HBV.out]; rfl, rfl⟩
                              · go_wp2_with fail
                                refine HNA.out.mono ?_
                                rintro e w' ⟨rfl, rfl⟩
                                go_wp2_with fail
                                go_meet
                                exact ⟨by rw [← HBB.out, HBV.out]; rfl, rfl⟩
                            · go_wp2_with fail
                              refine HNA.out.mono ?_
                              rintro e w' ⟨rfl, rfl⟩
                              go_wp2_with fail
                              go_meet
                              exact ⟨by rw [← HBB.out, HBV.out]; rfl, rfl⟩

                        case rest =>
                          obtain ⟨rfl, rfl⟩ := hcut
                          cases bad
                          · have HIO := Lib.hid (show stopOk ⟨nm, dl, fl⟩ = true from rnot_f HBO.out)
                            go_wp2_with fail
                            go_roundw
                            case rel => exact ⟨j + 1, by omega, by go_num, all_take_succ HY.out HALLJ.out HIO.out, HB6.out⟩
                            case measure => simp [intOf]; omega
                          · have HIO := Lib.hid (show stopOk ⟨nm, dl, fl⟩ = false from rnot_t HBO.out)
                            have HR := Lib.hid (HR3.out (routeOk_bad HY.out HIO.out))
                            go_wp2_with fail
                            go_ret
                            exact ⟨ret_int (by rw [HR.out]; rfl), HB1.out.trans ((HB5.out.trans (HB6.out.mono h15)).mono hs1)⟩
                      · have HRO : Hid (routeOk x = true) := Lib.hid (by
                          have : x.all stopOk = true := by rw [← all_end (show x.length ≤ j by rw [HXL.out]; omega)]; exact HALLJ.out
                          unfold routeOk
                          rw [this, HXL.out]
                          simp; omega)
                        clear hbi
                        go_wp2_with fail
                        go_roundw
                        case rel => exact ⟨k + 1, by omega, by go_num, all_take_succ HX.out HALL.out HRO.out, HB5.out.trans (HBI.out.mono h15)⟩
                        case measure => simp [intOf]; omega
            · go_wp2_with fail
              go_meet
              exact ⟨by unfold f3; rw [← all_end (show p.routes.length ≤ k by rw [HN2.out]; omega)]; exact HALL.out, HB5.out⟩
        case rest =>
          obtain ⟨hf3, hb5⟩ := hcut
          obtain ⟨w5, hw5⟩ : ∃ z : World, wc = z := ⟨_, rfl⟩
          rw [hw5] at hb5 ⊢
          clear hw5
          have HF3 := Lib.hid hf3
          have HB5 := Lib.hid hb5
          clear hf3 hb5 HB4 h14
          go_upto_block 10 with fail
          go_cut [] (fun wx => f4 p = true ∧ Below w1.heap.size w1 wx)
          case first => as_aux_lemma =>
            go_wp2_with fail
            go_loopw [13] (fun ix wr => ∃ k : Nat, k ≤ n3 ∧ ix = .int .i64 k ∧ (p.sends.take k).all specOk = true ∧ Below w1.heap.size w1 wr) (fun ix _ => n3 - (intOf ix).toNat)
            case atStart => exact ⟨0, by omega, rfl, rfl, HB5.out⟩
            case round =>
              obtain ⟨w7, hwo⟩ : ∃ z : World, wr = z := ⟨_, rfl⟩
              obtain ⟨k, hk, rfl, hall, hbel⟩ := hrel
              rw [hwo] at hbel ⊢
              clear hwo
              have HALL := Lib.hid hall
              have HB7 := Lib.hid hbel
              have h17 := hbel.size
              have d3 : w7.cell? ⟨q, 3, none⟩ = some (.slice sa n3 sc) := (hbel.cell (p := ⟨q, 3, none⟩) hql).trans ((Lib.cell_of_heap HQ.out _).trans rfl)
              clear hall
              by_cases hlt : k < n3
              · obtain ⟨x, hx⟩ : ∃ x, p.sends[k]? = some x := ⟨_, List.getElem?_eq_getElem (by rw [HN3.out]; exact hlt)⟩
                obtain ⟨bp, bc, ⟨g, o, ha, hg, hc⟩, hst, hbc⟩ := HP.out.sends k x hx
                have hxl := sends_len HP.out hx
                obtain ⟨msg, rs, blk⟩ := x
                obtain ⟨xl, hxle⟩ : ∃ xl, rs.length = xl := ⟨_, rfl⟩
                have hg7 : g < w7.heap.size := by omega
                have c0 : w7.cell? ⟨g, o + k * 3, none⟩ = some (.int .i64 msg) := (hbel.cell (p := ⟨g, _, none⟩) (by show g < _; omega)).trans ((HB1.out.cell (p := ⟨g, _, none⟩) hg).trans (hc 0 _ rfl))
                have c1 : w7.cell? ⟨g, o + k * 3 + 1, none⟩ = some (.slice bp xl bc) := by rw [← hxle]; exact (hbel.cell (p := ⟨g, _, none⟩) (by show g < _; omega)).trans ((HB1.out.cell (p := ⟨g, _, none⟩) hg).trans (hc 1 _ rfl))
                have c2 : w7.cell? ⟨g, o + k * 3 + 2, none⟩ = some (.int .i64 blk) := (hbel.cell (p := ⟨g, _, none⟩) (by show g < _; omega)).trans ((HB1.out.cell (p := ⟨g, _, none⟩) hg).trans (hc 2 _ rfl))
                subst ha
                have HX := Lib.hid hx
                have HST7 := Lib.hid ((hst.below HB1.out).below hbel)
                have HXL := Lib.hid hxle
                obtain ⟨w8, r, hw8, hr⟩ : ∃ w8 r, w7.alloc (.cells #[.int .i64 msg, .slice bp xl bc, .int .i64 blk] 39) = w8 ∧ w7.heap.size = r := ⟨_, _, rfl, rfl⟩
                have hb8 : Below w7.heap.size w7 w8 := by rw [← hw8]; exact (Below.refl _ _).alloc (Nat.le_refl _) _
                have hh8 : w8.heap[r]? = some (.cells #[.int .i64 msg, .slice bp xl bc, .int .i64 blk] 39 (0, 0)) := by rw [← hw8, ← hr]; exact heap_new _ _
                have e0 : w8.cell? ⟨r, 0, none⟩ = some (.int .i64 msg) := (Lib.cell_of_heap hh8 _).trans rfl
                have e1 : w8.cell? ⟨r, 1, none⟩ = some (.slice bp xl bc) := (Lib.cell_of_heap hh8 _).trans rfl
                have e2 : w8.cell? ⟨r, 2, none⟩ = some (.int .i64 blk) := (Lib.cell_of_heap hh8 _).trans rfl
                have HB8 := Lib.hid (HB7.out.trans (hb8.mono HB7.out.size))
                have HST8 := Lib.hid (HST7.out.below hb8)
                have HW8 := Lib.hid hw8
                have HRE := Lib.hid hr
                clear hx hc hst hbel hbc hxle hb8 hh8 hw8 hr
                go_upto_region 36 with fail
                rw [HW8.out, HRE.out]
                clear HW8 HRE c0 c1 c2
                obtain ⟨bad, hbad⟩ : ∃ bad, specBad xl msg blk = bad := ⟨_, rfl⟩
                have HBB := Lib.hid hbad
                clear hbad
                go_cut [206] (fun s wx => s = .bool bad ∧ w8 = wx)
                case first => as_aux_lemma =>
                  obtain ⟨b1, hb1⟩ : ∃ z, decide ((xl : Int) < 1) = z := ⟨_, rfl⟩
                  obtain ⟨b2, hb2⟩ : ∃ z, decide ((8 : Int) < (xl : Int)) = z := ⟨_, rfl⟩
                  obtain ⟨b3, hb3⟩ : ∃ z, decide (msg < 0) = z := ⟨_, rfl⟩
                  obtain ⟨b4, hb4⟩ : ∃ z, decide (63 < msg) = z := ⟨_, rfl⟩
                  obtain ⟨b5, hb5⟩ : ∃ z, decide (blk < -1) = z := ⟨_, rfl⟩
                  obtain ⟨b6, hb6⟩ : ∃ z, decide (15 < blk) = z := ⟨_, rfl⟩
                  have HBV := Lib.hid (show specBad xl msg blk = (b1 || b2 || b3 || b4 || b5 || b6) by unfold specBad; rw [hb1, hb2, hb3, hb4, hb5, hb6])
                  cases b1
                  · cases b2
                    · cases b3
                      · cases b4
                        · cases b5
                          · cases b6
                            · go_wp2_with fail
                              go_meet
                              exact ⟨by rw [← HBB.out, HBV.out]; rfl, rfl⟩
                            · go_wp2_with fail
                              go_meet
                              exact ⟨by rw [← HBB.out, HBV.out]; rfl, rfl⟩
                          · go_wp2_with fail
                            go_meet
                            exact ⟨by rw [← HBB.out, HBV.out]; rfl, rfl⟩
                        · go_wp2_with fail
                          go_meet
                          exact ⟨by rw [← HBB.out, HBV.out]; rfl, rfl⟩
                      · go_wp2_with fail
                        go_meet
                        exact ⟨by rw [← HBB.out, HBV.out]; rfl, rfl⟩
                    · go_wp2_with fail
                      go_meet
                      exact ⟨by rw [← HBB.out, HBV.out]; rfl, rfl⟩
                  · go_wp2_with fail
                    go_meet
                    exact ⟨by rw [← HBB.out, HBV.out]; rfl, rfl⟩

                case rest =>
                  obtain ⟨rfl, rfl⟩ := hcut
                  have HR3 : Hid (specOk ⟨msg, rs, blk⟩ = false → rv = 3) := Lib.hid (fun hx0 => by
                    rw [HRV.out, HOP.out, HF1.out, HF2.out, HF3.out]
                    have : f4 p = false := all_bad HX.out hx0
                    rw [this]; rfl)
                  cases bad
                  · have hnb : Hid (specBad xl msg blk = false) := HBB
                    have hxl2 : xl ≤ 8 := by
                      have := HBB.out
                      unfold specBad at this
                      simp at this
                      omega
                    go_wp2_with fail
                    go_loopw [15] (fun ix wr => ∃ j : Nat, j ≤ xl ∧ ix = .int .i64 j ∧ (rs.take j).all (fun n => inB n 0 63) = true ∧ w8 = wr) (fun ix _ => xl - (intOf ix).toNat)
                    case atStart => exact ⟨0, by omega, rfl, rfl, rfl⟩
                    case round =>
                      obtain ⟨j, hj, rfl, hallj, rfl⟩ := hrel
                      have HALLJ := Lib.hid hallj
                      clear hallj
                      by_cases hjl : j < xl
                      · obtain ⟨y, hy⟩ : ∃ y, rs[j]? = some y := ⟨_, List.getElem?_eq_getElem (by have h := HXL.out; show j < rs.length; rw [h]; exact hjl)⟩
                        obtain ⟨gs, os, ha2, hgs, hcs⟩ := HST8.out j y hy
                        have y0 : w8.cell? ⟨gs, os + j, none⟩ = some (.int .i64 y) := by simpa using hcs 0 _ rfl
                        have HY := Lib.hid hy
                        subst ha2
                        clear hy hcs
                        by_cases hy1 : y < 0
                        · have HR := Lib.hid (HR3.out (by
                            unfold specOk
                            rw [show rs.all (fun k => inB k 0 63) = false from all_bad HY.out (by simp [inB]; omega)]; rfl))
                          go_wp2_with fail
                          go_ret
                          exact ⟨ret_int (by rw [HR.out]; rfl), HB1.out.trans (HB8.out.mono hs1)⟩
                        · by_cases hy2 : 63 < y
                          · have HR := Lib.hid (HR3.out (by
                              unfold specOk
                              rw [show rs.all (fun k => inB k 0 63) = false from all_bad HY.out (by simp [inB]; omega)]; rfl))
                            go_wp2_with fail
                            go_ret
                            exact ⟨ret_int (by rw [HR.out]; rfl), HB1.out.trans (HB8.out.mono hs1)⟩
                          · have HN := Lib.hid (all_take_succ HY.out HALLJ.out (show inB y 0 63 = true by simp [inB]; omega))
                            go_wp2_with fail
                            go_roundw
                            case rel => exact ⟨j + 1, by omega, by go_num, HN.out, by first | rfl | trivial⟩
                            case measure => simp [intOf]; omega
                      · have HSO : Hid (specOk ⟨msg, rs, blk⟩ = true) := Lib.hid (by
                          have : rs.all (fun k => inB k 0 63) = true := by rw [← all_end (show rs.length ≤ j by have h := HXL.out; omega)]; exact HALLJ.out
                          have hb := HBB.out
                          unfold specBad at hb
                          simp at hb
                          unfold specOk
                          rw [this]
                          have h := HXL.out
                          simp [inB, h]; omega)
                        go_wp2_with fail
                        go_roundw
                        case rel => exact ⟨k + 1, by omega, by go_num, all_take_succ HX.out HALL.out HSO.out, HB8.out⟩
                        case measure => simp [intOf]; omega
                  · have HR := Lib.hid (HR3.out (by
                      have hb := HBB.out
                      unfold specBad at hb
                      have h := HXL.out
                      rw [Bool.eq_false_iff]
                      intro ho
                      unfold specOk at ho
                      simp [inB, h] at ho hb
                      omega))
                    go_wp2_with fail
                    go_ret
                    exact ⟨ret_int (by rw [HR.out]; rfl), HB1.out.trans (HB8.out.mono hs1)⟩
              · go_wp2_with fail
                go_meet
                exact ⟨by unfold f4; rw [← all_end (show p.sends.length ≤ k by rw [HN3.out]; omega)]; exact HALL.out, HB7.out⟩
          case rest =>
            obtain ⟨hf4, -⟩ := hcut
            exfalso
            have hh := HBD.out
            rw [HOP.out, HF1.out, HF2.out, HF3.out, hf4] at hh
            simp at hh
end Go.Proofs.YtaijdpckkobofaaDoor
