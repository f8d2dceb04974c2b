/- code.Encode in general. (wip/gen_enc2.py) -/
import Derived.Test.YtaijdpckkobofaaDoorEnc1
import Derived.Deep.CutBlock
namespace Go.Proofs.YtaijdpckkobofaaDoor
open Go.RowKit
set_option linter.unusedVariables false

def EncOut (p : PProg) (w : World) (e : Ending) (w' : World) : Prop :=
  Below w.heap.size w w' ∧ ((checkP p ≠ 0 ∧ e = .returned (.tuple #[.slice none 0 0, .int .i64 (checkP p : Int)])) ∨ (checkP p = 0 ∧ ∃ v, e = .returned (.tuple #[v, .int .i64 0]) ∧ w'.ownsRow w.heap.size 5 1 v (encodeP p).length (Lib.byteCells (encodeP p))))
theorem one_in {x : Int} (h1 : -9223372036854775808 ≤ x) (h2 : x ≤ 9223372036854775807) : ∀ y ∈ [x], -9223372036854775808 ≤ y ∧ y ≤ 9223372036854775807 := by
  intro y hy
  simp only [List.mem_singleton] at hy
  subst hy
  exact ⟨h1, h2⟩
theorem two_in {x z : Int} (h1 : -9223372036854775808 ≤ x) (h2 : x ≤ 9223372036854775807) (h3 : -9223372036854775808 ≤ z) (h4 : z ≤ 9223372036854775807) : ∀ y ∈ [x, z], -9223372036854775808 ≤ y ∧ y ≤ 9223372036854775807 := by
  intro y hy
  simp only [List.mem_cons, List.not_mem_nil, or_false] at hy
  rcases hy with rfl | rfl
  · exact ⟨h1, h2⟩
  · exact ⟨h3, h4⟩
theorem head_eq (p : PProg) : ([] ++ magicL ++ ([(p.code.length : Int), p.msgs.length, p.routes.length, p.sends.length, p.vars, p.stack, p.blocks] : List Int).flatMap (numW 2)) ++ ([p.fuel] : List Int).flatMap (numW 4) = headW p := by
  simp [headW]

set_option maxRecDepth 100000 in
set_option maxHeartbeats 8000000 in
theorem encode_any (p : PProg) (ca ma ra sa : Option Addr) (cc mc rc sc : Nat) (w : World) (h : PrgA w p ca cc ma mc ra rc sa sc) :
    Calls Tryd.prog 17 #[prgV p ca cc ma mc ra rc sa sc] w (EncOut p w) := by
  have HP := Lib.hid h
  obtain ⟨n0, hn0⟩ : ∃ n, p.code.length = n := ⟨_, rfl⟩
  obtain ⟨n1, hn1⟩ : ∃ n, p.msgs.length = n := ⟨_, rfl⟩
  obtain ⟨n2, hn2⟩ : ∃ n, p.routes.length = n := ⟨_, rfl⟩
  obtain ⟨n3, hn3⟩ : ∃ n, p.sends.length = n := ⟨_, rfl⟩
  obtain ⟨v0, hv0⟩ : ∃ n, p.vars = n := ⟨_, rfl⟩
  obtain ⟨v1, hv1⟩ : ∃ n, p.stack = n := ⟨_, rfl⟩
  obtain ⟨v2, hv2⟩ : ∃ n, p.blocks = n := ⟨_, rfl⟩
  obtain ⟨v3, hv3⟩ : ∃ n, p.fuel = n := ⟨_, rfl⟩
  have HHE := Lib.hid (head_eq p)
  rw [hn0, hn1, hn2, hn3, hv0, hv1, hv2, hv3] at HHE
  have hlc := h.lc
  have hlm := h.lm
  have hlr := h.lr
  have hls := h.ls
  rw [hn0] at hlc
  rw [hn1] at hlm
  rw [hn2] at hlr
  rw [hn3] at hls
  obtain ⟨w1, q, hw1, hq⟩ : ∃ w1 q, w.alloc (.cells #[.slice ca n0 cc, .slice ma n1 mc, .slice ra n2 rc, .slice sa n3 sc, .int .i64 v0, .int .i64 v1, .int .i64 v2, .int .i64 v3] 28) = w1 ∧ w.heap.size = q := ⟨_, _, rfl, rfl⟩
  have hb1 : Below w.heap.size w w1 := by rw [← hw1]; exact (Below.refl _ _).alloc (Nat.le_refl _) _
  have hh1 : w1.heap[q]? = some (.cells #[.slice ca n0 cc, .slice ma n1 mc, .slice ra n2 rc, .slice sa n3 sc, .int .i64 v0, .int .i64 v1, .int .i64 v2, .int .i64 v3] 28 (0, 0)) := by rw [← hw1, ← hq]; exact heap_new _ _
  have hql : q < w1.heap.size := (Array.getElem?_eq_some_iff.1 hh1).1
  have HCK := Lib.hid (check_any p ca ma ra sa cc mc rc sc w1 (h.below hb1))
  unfold prgV at HCK ⊢
  rw [hn0, hn1, hn2, hn3, hv0, hv1, hv2, hv3] at HCK ⊢
  have HQ1 := Lib.hid hh1
  have HB1 := Lib.hid hb1
  have HN := Lib.hid (show p.code.length = n0 ∧ p.msgs.length = n1 ∧ p.routes.length = n2 ∧ p.sends.length = n3 ∧ p.vars = v0 ∧ p.stack = v1 ∧ p.blocks = v2 ∧ p.fuel = v3 from ⟨hn0, hn1, hn2, hn3, hv0, hv1, hv2, hv3⟩)
  obtain ⟨ck, hck⟩ : ∃ ck, checkP p = ck := ⟨_, rfl⟩
  rw [hck] at HCK
  have HCKE := Lib.hid hck
  have HWE := Lib.hid hw1
  have HQE := Lib.hid hq
  clear h hh1 hb1 hn0 hn1 hn2 hn3 hv0 hv1 hv2 hv3 hw1 hq hck
  go_enter Tryd.func17, Tryd.ntmps17
  go_upto_region 1 with fail
  rw [HWE.out, HQE.out]
  clear HWE HQE
  have d0 : w1.cell? ⟨q, 0, none⟩ = some (.slice ca n0 cc) := (Lib.cell_of_heap HQ1.out _).trans rfl
  have d1 : w1.cell? ⟨q, 1, none⟩ = some (.slice ma n1 mc) := (Lib.cell_of_heap HQ1.out _).trans rfl
  have d2 : w1.cell? ⟨q, 2, none⟩ = some (.slice ra n2 rc) := (Lib.cell_of_heap HQ1.out _).trans rfl
  have d3 : w1.cell? ⟨q, 3, none⟩ = some (.slice sa n3 sc) := (Lib.cell_of_heap HQ1.out _).trans rfl
  have d4 : w1.cell? ⟨q, 4, none⟩ = some (.int .i64 v0) := (Lib.cell_of_heap HQ1.out _).trans rfl
  have d5 : w1.cell? ⟨q, 5, none⟩ = some (.int .i64 v1) := (Lib.cell_of_heap HQ1.out _).trans rfl
  have d6 : w1.cell? ⟨q, 6, none⟩ = some (.int .i64 v2) := (Lib.cell_of_heap HQ1.out _).trans rfl
  have d7 : w1.cell? ⟨q, 7, none⟩ = some (.int .i64 v3) := (Lib.cell_of_heap HQ1.out _).trans rfl
  go_wp2_with fail
  refine HCK.out.mono ?_
  rintro e w2 ⟨rfl, hb2⟩
  clear d0 d1 d2 d3 d4 d5 d6 d7
  have hq2 : q < w2.heap.size := by have := hb2.size; omega
  have HQ2 := Lib.hid ((hb2.block q hql).trans HQ1.out)
  have HB2 := Lib.hid (HB1.out.trans (hb2.mono HB1.out.size))
  have HP2 := Lib.hid ((HP.out.below HB1.out).below hb2)
  clear hb2 HCK
  by_cases hc0 : ck = 0
  · subst hc0
    have HFIT := Lib.hid (Fit.of HCKE.out)
    obtain ⟨w3, b, hw3, hbe⟩ : ∃ w3 b, w2.alloc (.cells #[.slice none 0 0, .int .i64 0, .int .i8 0] 123) = w3 ∧ w2.heap.size = b := ⟨_, _, rfl, rfl⟩
    have he3 : EncS b w2 [] w3 := by rw [← hw3, ← hbe]; exact EncS.new w2
    have HE3 := Lib.hid he3
    have hbw : w2.heap.size ≤ b := by omega
    have HW3 := Lib.hid hw3
    have HBE := Lib.hid hbe
    clear he3 hw3 hbe
    go_upto_region 5 with fail
    rw [HW3.out, HBE.out]
    clear HW3 HBE
    go_wp2_with fail
    refine (eStr HE3.out _ magicL 4 rfl rfl (by decide)).mono ?_
    rintro e w4 ⟨rfl, he4, -⟩
    have HE4 := Lib.hid he4
    have hq4 := (he4.below.block q hq2).trans HQ2.out
    have d0 : w4.cell? ⟨q, 0, none⟩ = some (.slice ca n0 cc) := (Lib.cell_of_heap hq4 _).trans rfl
    have d1 : w4.cell? ⟨q, 1, none⟩ = some (.slice ma n1 mc) := (Lib.cell_of_heap hq4 _).trans rfl
    have d2 : w4.cell? ⟨q, 2, none⟩ = some (.slice ra n2 rc) := (Lib.cell_of_heap hq4 _).trans rfl
    have d3 : w4.cell? ⟨q, 3, none⟩ = some (.slice sa n3 sc) := (Lib.cell_of_heap hq4 _).trans rfl
    have d4 : w4.cell? ⟨q, 4, none⟩ = some (.int .i64 v0) := (Lib.cell_of_heap hq4 _).trans rfl
    have d5 : w4.cell? ⟨q, 5, none⟩ = some (.int .i64 v1) := (Lib.cell_of_heap hq4 _).trans rfl
    have d6 : w4.cell? ⟨q, 6, none⟩ = some (.int .i64 v2) := (Lib.cell_of_heap hq4 _).trans rfl
    have d7 : w4.cell? ⟨q, 7, none⟩ = some (.int .i64 v3) := (Lib.cell_of_heap hq4 _).trans rfl

    have F := HFIT.out.nums
    have F0 := HFIT.out.code
    have F1 := HFIT.out.msgs
    have F2 := HFIT.out.routes
    have F3 := HFIT.out.sends
    rw [HN.out.1] at F0
    rw [HN.out.2.1] at F1
    rw [HN.out.2.2.1] at F2
    rw [HN.out.2.2.2.1] at F3
    rw [HN.out.2.2.2.2.1, HN.out.2.2.2.2.2.1, HN.out.2.2.2.2.2.2.1, HN.out.2.2.2.2.2.2.2] at F
    obtain ⟨F4, F5, F6, F7, F8, F9, F10, F11⟩ := F
    clear he4
    go_wp2_with fail
    refine (eNum HE4.out 2 2 [(n0 : Int), n1, n2, n3, v0, v1, v2] _ 7 rfl rfl (by decide) rfl (by simp [magicL]) ?_ _ rfl _ rfl).mono ?_
    · intro x hx
      simp only [List.mem_cons, List.not_mem_nil, or_false] at hx
      omega
    rintro e w5 ⟨rfl, he5, -⟩
    have HE5 := Lib.hid he5
    have hq5 := (he5.below.block q hq2).trans HQ2.out
    clear d0 d1 d2 d3 d4 d5 d6 d7
    have d7 : w5.cell? ⟨q, 7, none⟩ = some (.int .i64 v3) := (Lib.cell_of_heap hq5 _).trans rfl

    clear he5 hq4
    go_wp2_with fail
    refine (eNum HE5.out 4 4 [v3] _ 1 rfl rfl (by decide) rfl (by simp [magicL, numW_len]) ?_ _ rfl _ rfl).mono ?_
    · intro x hx
      simp only [List.mem_cons, List.not_mem_nil, or_false] at hx
      omega
    rintro e w6 ⟨rfl, he6, -⟩
    have HE6 : Hid (EncS b w2 (headW p) w6) := Lib.hid (he6.cast HHE.out)
    clear he6 d7 hq5 HHE HE3 HE4 HE5
    have d0 : w6.cell? ⟨q, 0, none⟩ = some (.slice ca n0 cc) := (Lib.cell_of_heap ((HE6.out.below.block q hq2).trans HQ2.out) _).trans rfl
    go_upto_block 0 with fail
    clear d0
    go_cut [] (fun wx => EncS b w2 (headW p ++ p.code.flatMap insW) wx)
    case first =>
      go_wp2_with fail
      go_loopw [50] (fun ix wr => ∃ k : Nat, k ≤ n0 ∧ ix = .int .i64 k ∧ EncS b w2 (headW p ++ (p.code.take k).flatMap insW) wr) (fun ix _ => n0 - (intOf ix).toNat)
      case atStart => exact ⟨0, by omega, rfl, by simpa using HE6.out⟩
      case round =>
        obtain ⟨wo, hwo⟩ : ∃ wo : World, wr = wo := ⟨_, rfl⟩
        obtain ⟨k, hk, rfl, he⟩ := hrel
        rw [hwo] at he ⊢
        clear hwo
        by_cases hlt : k < n0
        · obtain ⟨x, hx⟩ : ∃ x, p.code[k]? = some x := ⟨_, List.getElem?_eq_getElem (by rw [HN.out.1]; exact hlt)⟩
          obtain ⟨-, g, o, ha, hg, hc⟩ := HP2.out.code k x hx
          have fx := HFIT.out.ops x (List.mem_of_getElem? hx)
          have HS := Lib.hid (show headW p ++ (p.code.take (k + 1)).flatMap insW = _ from by rw [flat_succ hx, ← List.append_assoc])
          obtain ⟨op, a, b2⟩ := x
          obtain ⟨fx1, fx2, fx3, fx4, fx5⟩ : op ≤ 16 ∧ -2147483648 ≤ a ∧ a ≤ 2147483647 ∧ 0 ≤ b2 ∧ b2 ≤ 65535 := fx
          have c0 : wo.cell? ⟨g, o + k * 3, none⟩ = some (.int .u8 op) := (he.below.cell (p := ⟨g, _, none⟩) hg).trans (hc 0 _ rfl)
          have c1 : wo.cell? ⟨g, o + k * 3 + 1, none⟩ = some (.int .i64 a) := (he.below.cell (p := ⟨g, _, none⟩) hg).trans (hc 1 _ rfl)
          have c2 : wo.cell? ⟨g, o + k * 3 + 2, none⟩ = some (.int .i64 b2) := (he.below.cell (p := ⟨g, _, none⟩) hg).trans (hc 2 _ rfl)
          subst ha
          obtain ⟨l, hl⟩ : ∃ l, headW p ++ (p.code.take k).flatMap insW = l := ⟨_, rfl⟩
          have hll : l.length ≤ 100000 := by have := code_le HFIT.out k; rw [← hl, List.length_append, headW_len]; omega
          rw [hl] at he HS
          obtain ⟨w7, r, hw7, hr⟩ : ∃ w7 r, wo.alloc (.cells #[.int .u8 op, .int .i64 a, .int .i64 b2] 33) = w7 ∧ wo.heap.size = r := ⟨_, _, rfl, rfl⟩
          have he7 : EncS b w2 l w7 := by rw [← hw7]; exact he.alloc _
          have hrb : r ≠ b := by have := he.lt; omega
          have hh7 : w7.heap[r]? = some (.cells #[.int .u8 op, .int .i64 a, .int .i64 b2] 33 (0, 0)) := by rw [← hw7, ← hr]; exact heap_new _ _
          have e0 : w7.cell? ⟨r, 0, none⟩ = some (.int .u8 op) := (Lib.cell_of_heap hh7 _).trans rfl
          have HE7 := Lib.hid he7
          have HH7 := Lib.hid hh7
          have HW7 := Lib.hid hw7
          have HRE := Lib.hid hr
          clear hx hc hl he he7 hh7 hw7 hr
          go_upto_region 11 with fail
          rw [HW7.out, HRE.out]
          clear HW7 HRE c0 c1 c2
          go_wp2_with fail
          refine (eByte HE7.out op (by omega) (by omega)).mono ?_
          rintro e w8 ⟨rfl, he8, hw8⟩
          have hh8 := hw8.keep HH7.out hrb (by decide)
          have e1 : w8.cell? ⟨r, 1, none⟩ = some (.int .i64 a) := (Lib.cell_of_heap hh8 _).trans rfl
          have HE8 := Lib.hid he8
          have HH8 := Lib.hid hh8
          clear he8 hw8 hh8 e0
          go_wp2_with fail
          refine (eNum HE8.out 4 4 [a] _ 1 rfl rfl (by decide) rfl (by simp; omega) (one_in (by omega) (by omega)) _ rfl _ rfl).mono ?_
          rintro e w9 ⟨rfl, he9, hw9⟩
          have hh9 := hw9.keep HH8.out hrb (by decide)
          have e2 : w9.cell? ⟨r, 2, none⟩ = some (.int .i64 b2) := (Lib.cell_of_heap hh9 _).trans rfl
          have HE9 := Lib.hid he9
          clear he9 hw9 hh9 e1
          go_wp2_with fail
          refine (eNum HE9.out 2 2 [b2] _ 1 rfl rfl (by decide) rfl (by simp [numW_len]; omega) (one_in (by omega) (by omega)) _ rfl _ rfl).mono ?_
          rintro e w10 ⟨rfl, he10, -⟩
          have HE10 := Lib.hid he10
          clear he10 e2
          go_wp2_with fail
          go_roundw
          case rel => exact ⟨k + 1, by omega, by go_num, HE10.out.cast (by rw [HS.out]; simp [insW])⟩
          case measure => simp [intOf]; omega
        · have HE := Lib.hid he
          clear he
          go_wp2_with fail
          go_meet
          exact HE.out.cast (by rw [flat_end (by rw [HN.out.1]; omega)])
    case rest =>
      have HE11 := Lib.hid hcut
      clear hcut HE6
      have d1 : wc.cell? ⟨q, 1, none⟩ = some (.slice ma n1 mc) := (Lib.cell_of_heap ((HE11.out.below.block q hq2).trans HQ2.out) _).trans rfl
      go_upto_block 2 with fail
      clear d1
      go_cut [] (fun wx => EncS b w2 (headW p ++ p.code.flatMap insW ++ p.msgs.flatMap msgW) wx)
      case first =>
        go_wp2_with fail
        go_loopw [70] (fun ix wr => ∃ k : Nat, k ≤ n1 ∧ ix = .int .i64 k ∧ EncS b w2 (headW p ++ p.code.flatMap insW ++ (p.msgs.take k).flatMap msgW) wr) (fun ix _ => n1 - (intOf ix).toNat)
        case atStart => exact ⟨0, by omega, rfl, by simpa using HE11.out⟩
        case round =>
          obtain ⟨wo, hwo⟩ : ∃ wo : World, wr = wo := ⟨_, rfl⟩
          obtain ⟨k, hk, rfl, he⟩ := hrel
          rw [hwo] at he ⊢
          clear hwo
          by_cases hlt : k < n1
          · obtain ⟨x, hx⟩ : ∃ x, p.msgs[k]? = some x := ⟨_, List.getElem?_eq_getElem (by rw [HN.out.2.1]; exact hlt)⟩
            obtain ⟨bp, bc, ⟨g, o, ha, hg, hc⟩, hA, -⟩ := HP2.out.msgs k x hx
            have fx := HFIT.out.msg x (List.mem_of_getElem? hx)
            have HS := Lib.hid (show headW p ++ p.code.flatMap insW ++ (p.msgs.take (k + 1)).flatMap msgW = _ from by rw [flat_succ hx, ← List.append_assoc])
            obtain ⟨xl, hxl⟩ : ∃ xl, x.length = xl := ⟨_, rfl⟩
            rw [hxl] at fx
            have c0 : wo.cell? ⟨g, o + k, none⟩ = some (.slice bp xl bc) := by rw [← hxl]; exact (he.below.cell (p := ⟨g, _, none⟩) hg).trans (by simpa using hc 0 _ rfl)
            subst ha
            obtain ⟨l, hl⟩ : ∃ l, headW p ++ p.code.flatMap insW ++ (p.msgs.take k).flatMap msgW = l := ⟨_, rfl⟩
            have hll : l.length ≤ 1000000 := by
              have h1 := msgs_le HFIT.out k
              have h2 := code_le HFIT.out n0
              rw [flat_end (by rw [HN.out.1]; omega)] at h2
              rw [← hl, List.length_append, List.length_append, headW_len]; omega
            rw [hl] at he HS
            have HE7 := Lib.hid he
            have HA := Lib.hid hA
            have HXL := Lib.hid hxl
            clear hx hc hl he hA hxl
            go_upto_region 18 with fail
            clear c0
            go_wp2_with fail
            refine (eNum HE7.out 2 2 [(xl : Int)] _ 1 rfl rfl (by decide) rfl (by omega) (one_in (by omega) (by omega)) _ rfl _ rfl).mono ?_
            rintro e w8 ⟨rfl, he8, -⟩
            have HE8 := Lib.hid he8
            clear he8
            go_wp2_with fail
            refine (eBytes HE8.out bp xl bc _ x HA.out HXL.out rfl (by simp [numW_len]; omega)).mono ?_
            rintro e w9 ⟨rfl, he9, -⟩
            have HE9 := Lib.hid he9
            clear he9
            go_wp2_with fail
            go_roundw
            case rel => exact ⟨k + 1, by omega, by go_num, HE9.out.cast (by rw [HS.out]; simp [msgW, HXL.out])⟩
            case measure => simp [intOf]; omega
          · have HE := Lib.hid he
            clear he
            go_wp2_with fail
            go_meet
            exact HE.out.cast (by rw [flat_end (by rw [HN.out.2.1]; omega)])
      case rest =>
        have HE21 := Lib.hid hcut
        clear hcut HE11
        obtain ⟨wm, hwm⟩ : ∃ z : World, wc = z := ⟨_, rfl⟩
        rw [hwm] at HE21 ⊢
        clear hwm
        have d2 : wm.cell? ⟨q, 2, none⟩ = some (.slice ra n2 rc) := (Lib.cell_of_heap ((HE21.out.below.block q hq2).trans HQ2.out) _).trans rfl
        go_upto_block 4 with fail
        clear d2
        go_cut [] (fun wx => EncS b w2 (headW p ++ p.code.flatMap insW ++ p.msgs.flatMap msgW ++ p.routes.flatMap routeW) wx)
        case first =>
          go_wp2_with fail
          go_loopw [85] (fun ix wr => ∃ k : Nat, k ≤ n2 ∧ ix = .int .i64 k ∧ EncS b w2 (headW p ++ p.code.flatMap insW ++ p.msgs.flatMap msgW ++ (p.routes.take k).flatMap routeW) wr) (fun ix _ => n2 - (intOf ix).toNat)
          case atStart => exact ⟨0, by omega, rfl, by simpa using HE21.out⟩
          case round =>
            obtain ⟨wo, hwo⟩ : ∃ wo : World, wr = wo := ⟨_, rfl⟩
            obtain ⟨k, hk, rfl, he⟩ := hrel
            rw [hwo] at he ⊢
            clear hwo
            by_cases hlt : k < n2
            · obtain ⟨x, hx⟩ : ∃ x, p.routes[k]? = some x := ⟨_, List.getElem?_eq_getElem (by rw [HN.out.2.2.1]; exact hlt)⟩
              obtain ⟨bp, bc, ⟨g, o, ha, hg, hc⟩, hA, -⟩ := HP2.out.routes k x hx
              obtain ⟨fx, fs⟩ := HFIT.out.route x (List.mem_of_getElem? hx)
              have HFS := Lib.hid fs
              have HS := Lib.hid (show headW p ++ p.code.flatMap insW ++ p.msgs.flatMap msgW ++ (p.routes.take (k + 1)).flatMap routeW = _ from by rw [flat_succ hx, ← List.append_assoc])
              obtain ⟨xl, hxl⟩ : ∃ xl, x.length = xl := ⟨_, rfl⟩
              rw [hxl] at fx
              have c0 : wo.cell? ⟨g, o + k, none⟩ = some (.slice bp xl bc) := by rw [← hxl]; exact (he.below.cell (p := ⟨g, _, none⟩) hg).trans (by simpa using hc 0 _ rfl)
              subst ha
              obtain ⟨l, hl⟩ : ∃ l, headW p ++ p.code.flatMap insW ++ p.msgs.flatMap msgW ++ (p.routes.take k).flatMap routeW = l := ⟨_, rfl⟩
              have hll : l.length ≤ 1000000 := by
                have h1 := msgs_le HFIT.out n1
                rw [flat_end (by rw [HN.out.2.1]; omega)] at h1
                have h2 := code_le HFIT.out n0
                rw [flat_end (by rw [HN.out.1]; omega)] at h2
                have h3 := routes_le HFIT.out k
                rw [← hl, List.length_append, List.length_append, List.length_append, headW_len]; omega
              rw [hl] at he HS
              have HE7 := Lib.hid he
              have HA := Lib.hid hA
              have HXL := Lib.hid hxl
              clear hx hc hl he hA hxl fs
              go_upto_region 24 with fail
              clear c0
              go_wp2_with fail
              refine (eNum HE7.out 1 1 [(xl : Int)] _ 1 rfl rfl (by decide) rfl (by omega) (one_in (by omega) (by omega)) _ rfl _ rfl).mono ?_
              rintro e w8 ⟨rfl, he8, -⟩
              obtain ⟨l2, hl2⟩ : ∃ l2, l ++ [(xl : Int)].flatMap (numW 1) = l2 := ⟨_, rfl⟩
              have hl2l : l2.length ≤ 1000001 := by rw [← hl2]; simp [numW_len]; omega
              rw [hl2] at he8
              have HL2 := Lib.hid hl2
              have HE8 := Lib.hid he8
              clear he8 hl2
              go_wp2_with fail
              go_loopw [95] (fun ix wr => ∃ j : Nat, j ≤ xl ∧ ix = .int .i64 j ∧ EncS b w2 (l2 ++ (x.take j).flatMap stopW) wr) (fun ix _ => xl - (intOf ix).toNat)
              case atStart => exact ⟨0, by omega, rfl, by simpa using HE8.out⟩
              case round =>
                obtain ⟨wi, hwi⟩ : ∃ z : World, wr = z := ⟨_, rfl⟩
                obtain ⟨j, hj, rfl, hei⟩ := hrel
                rw [hwi] at hei ⊢
                clear hwi
                by_cases hjl : j < xl
                · obtain ⟨y, hy⟩ : ∃ y, x[j]? = some y := ⟨_, List.getElem?_eq_getElem (by rw [HXL.out]; exact hjl)⟩
                  obtain ⟨gs, os, ha2, hgs, hcs⟩ := HA.out j y hy
                  have fy := HFS.out y (List.mem_of_getElem? hy)
                  have HSJ := Lib.hid (show l2 ++ (x.take (j + 1)).flatMap stopW = _ from by rw [flat_succ hy, ← List.append_assoc])
                  obtain ⟨nm, dl, fl⟩ := y
                  obtain ⟨fy1, fy2, fy3, fy4, fy5⟩ : nm.length ≤ 16 ∧ 0 ≤ dl ∧ dl ≤ 1000000 ∧ 0 ≤ fl ∧ fl ≤ 255 := fy
                  obtain ⟨st, hst⟩ : ∃ st : ByteArray, (⟨nm.toArray⟩ : ByteArray) = st := ⟨_, rfl⟩
                  have hsd : st.data.toList = nm := by rw [← hst]
                  have hsz : st.size = nm.length := by rw [← hst]; rfl
                  have y0 : wi.cell? ⟨gs, os + j * 3, none⟩ = some (.string st) := by rw [← hst]; exact (hei.below.cell (p := ⟨gs, _, none⟩) hgs).trans (hcs 0 _ rfl)
                  have y1 : wi.cell? ⟨gs, os + j * 3 + 1, none⟩ = some (.int .i64 dl) := (hei.below.cell (p := ⟨gs, _, none⟩) hgs).trans (hcs 1 _ rfl)
                  have y2 : wi.cell? ⟨gs, os + j * 3 + 2, none⟩ = some (.int .i64 fl) := (hei.below.cell (p := ⟨gs, _, none⟩) hgs).trans (hcs 2 _ rfl)
                  subst ha2
                  obtain ⟨l3, hl3⟩ : ∃ l3, l2 ++ (x.take j).flatMap stopW = l3 := ⟨_, rfl⟩
                  have hl3l : l3.length ≤ 2000000 := by
                    have h1 := stops_le (r := x.take j) fun s hs => (HFS.out s (List.mem_of_mem_take hs)).1
                    have h2 := take_le x j
                    rw [HXL.out] at h2
                    rw [← hl3, List.length_append]; omega
                  rw [hl3] at hei HSJ
                  obtain ⟨w9, r, hw9, hr⟩ : ∃ w9 r, wi.alloc (.cells #[.string st, .int .i64 dl, .int .i64 fl] 64) = w9 ∧ wi.heap.size = r := ⟨_, _, rfl, rfl⟩
                  have he9 : EncS b w2 l3 w9 := by rw [← hw9]; exact hei.alloc _
                  have hrb : r ≠ b := by have := hei.lt; omega
                  have hh9 : w9.heap[r]? = some (.cells #[.string st, .int .i64 dl, .int .i64 fl] 64 (0, 0)) := by rw [← hw9, ← hr]; exact heap_new _ _
                  have e0 : w9.cell? ⟨r, 0, none⟩ = some (.string st) := (Lib.cell_of_heap hh9 _).trans rfl
                  have HE9 := Lib.hid he9
                  have HH9 := Lib.hid hh9
                  have HW9 := Lib.hid hw9
                  have HRE := Lib.hid hr
                  have HSD := Lib.hid hsd
                  obtain ⟨sz, hsze⟩ : ∃ sz, st.size = sz := ⟨_, rfl⟩
                  have hszn : sz = nm.length := by rw [← hsze, hsz]
                  clear hy hcs hl3 hei he9 hh9 hw9 hr hst hsd hsz
                  go_upto_region 28 with fail
                  rw [HW9.out, HRE.out]
                  clear HW9 HRE y0 y1 y2
                  go_wp2_with fail
                  refine (eNum HE9.out 1 1 [(nm.length : Int)] _ 1 rfl rfl (by decide) rfl (by omega) (one_in (by omega) (by omega)) _ rfl _ rfl).mono ?_
                  rintro e w10 ⟨rfl, he10, hw10⟩
                  have hh10 := hw10.keep HH9.out hrb (by decide)
                  clear e0
                  have e0 : w10.cell? ⟨r, 0, none⟩ = some (.string st) := (Lib.cell_of_heap hh10 _).trans rfl
                  have HE10 := Lib.hid he10
                  have HH10 := Lib.hid hh10
                  clear he10 hw10 hh10
                  go_wp2_with fail
                  refine (eStr HE10.out st nm _ HSD.out rfl (by simp [numW_len]; omega)).mono ?_
                  rintro e w11 ⟨rfl, he11, hw11⟩
                  have hh11 := hw11.keep HH10.out hrb (by decide)
                  have e1 : w11.cell? ⟨r, 1, none⟩ = some (.int .i64 dl) := (Lib.cell_of_heap hh11 _).trans rfl
                  have HE11' := Lib.hid he11
                  have HH11 := Lib.hid hh11
                  clear he11 hw11 hh11 e0
                  go_wp2_with fail
                  refine (eNum HE11'.out 4 4 [dl] _ 1 rfl rfl (by decide) rfl (by simp [numW_len]; omega) (one_in (by omega) (by omega)) _ rfl _ rfl).mono ?_
                  rintro e w12 ⟨rfl, he12, hw12⟩
                  have hh12 := hw12.keep HH11.out hrb (by decide)
                  have e2 : w12.cell? ⟨r, 2, none⟩ = some (.int .i64 fl) := (Lib.cell_of_heap hh12 _).trans rfl
                  have HE12 := Lib.hid he12
                  clear he12 hw12 hh12 e1
                  go_wp2_with fail
                  refine (eNum HE12.out 1 1 [fl] _ 1 rfl rfl (by decide) rfl (by simp [numW_len]; omega) (one_in (by omega) (by omega)) _ rfl _ rfl).mono ?_
                  rintro e w13 ⟨rfl, he13, -⟩
                  have HE13 := Lib.hid he13
                  clear he13 e2
                  go_wp2_with fail
                  go_roundw
                  case rel => exact ⟨j + 1, by omega, by go_num, HE13.out.cast (by rw [HSJ.out]; simp [stopW])⟩
                  case measure => simp [intOf]; omega
                · have HEI := Lib.hid hei
                  clear hei
                  go_wp2_with fail
                  go_roundw
                  case rel => exact ⟨k + 1, by omega, by go_num, HEI.out.cast (by rw [HS.out, flat_end (by rw [HXL.out]; omega), ← HL2.out]; simp [routeW, HXL.out])⟩
                  case measure => simp [intOf]; omega
            · have HE := Lib.hid he
              clear he
              go_wp2_with fail
              go_meet
              exact HE.out.cast (by rw [flat_end (by rw [HN.out.2.2.1]; omega)])
        case rest =>
          have HE31 := Lib.hid hcut
          clear hcut HE21
          obtain ⟨wn, hwn⟩ : ∃ z : World, wc = z := ⟨_, rfl⟩
          rw [hwn] at HE31 ⊢
          clear hwn
          have d3 : wn.cell? ⟨q, 3, none⟩ = some (.slice sa n3 sc) := (Lib.cell_of_heap ((HE31.out.below.block q hq2).trans HQ2.out) _).trans rfl
          go_upto_block 8 with fail
          clear d3
          go_cut [] (fun wx => EncS b w2 (encodeP p) wx)
          case first =>
            go_wp2_with fail
            go_loopw [121] (fun ix wr => ∃ k : Nat, k ≤ n3 ∧ ix = .int .i64 k ∧ EncS b w2 (headW p ++ p.code.flatMap insW ++ p.msgs.flatMap msgW ++ p.routes.flatMap routeW ++ (p.sends.take k).flatMap specW) wr) (fun ix _ => n3 - (intOf ix).toNat)
            case atStart => exact ⟨0, by omega, rfl, by simpa using HE31.out⟩
            case round =>
              obtain ⟨wo, hwo⟩ : ∃ wo : World, wr = wo := ⟨_, rfl⟩
              obtain ⟨k, hk, rfl, he⟩ := hrel
              rw [hwo] at he ⊢
              clear hwo
              by_cases hlt : k < n3
              · obtain ⟨x, hx⟩ : ∃ x, p.sends[k]? = some x := ⟨_, List.getElem?_eq_getElem (by rw [HN.out.2.2.2.1]; exact hlt)⟩
                obtain ⟨bp, bc, ⟨g, o, ha, hg, hc⟩, hA, -⟩ := HP2.out.sends k x hx
                have fx := HFIT.out.send x (List.mem_of_getElem? hx)
                have HS := Lib.hid (show headW p ++ p.code.flatMap insW ++ p.msgs.flatMap msgW ++ p.routes.flatMap routeW ++ (p.sends.take (k + 1)).flatMap specW = _ from by rw [flat_succ hx, ← List.append_assoc])
                obtain ⟨msg, rs, blk⟩ := x
                obtain ⟨fx1, fx2, fx3, fx4, fx5, fx6⟩ : rs.length ≤ 8 ∧ 0 ≤ msg ∧ msg ≤ 63 ∧ -1 ≤ blk ∧ blk ≤ 15 ∧ ∀ k ∈ rs, 0 ≤ k ∧ k ≤ 63 := fx
                obtain ⟨xl, hxl⟩ : ∃ xl, rs.length = xl := ⟨_, rfl⟩
                rw [hxl] at fx1
                have c0 : wo.cell? ⟨g, o + k * 3, none⟩ = some (.int .i64 msg) := (he.below.cell (p := ⟨g, _, none⟩) hg).trans (hc 0 _ rfl)
                have c1 : wo.cell? ⟨g, o + k * 3 + 1, none⟩ = some (.slice bp xl bc) := by rw [← hxl]; exact (he.below.cell (p := ⟨g, _, none⟩) hg).trans (hc 1 _ rfl)
                have c2 : wo.cell? ⟨g, o + k * 3 + 2, none⟩ = some (.int .i64 blk) := (he.below.cell (p := ⟨g, _, none⟩) hg).trans (hc 2 _ rfl)
                subst ha
                obtain ⟨l, hl⟩ : ∃ l, headW p ++ p.code.flatMap insW ++ p.msgs.flatMap msgW ++ p.routes.flatMap routeW ++ (p.sends.take k).flatMap specW = l := ⟨_, rfl⟩
                have hll : l.length ≤ 1000000 := by
                  have h1 := msgs_le HFIT.out n1
                  rw [flat_end (by rw [HN.out.2.1]; omega)] at h1
                  have h2 := code_le HFIT.out n0
                  rw [flat_end (by rw [HN.out.1]; omega)] at h2
                  have h3 := routes_le HFIT.out n2
                  rw [flat_end (by rw [HN.out.2.2.1]; omega)] at h3
                  have h4 := sends_le HFIT.out k
                  rw [← hl, List.length_append, List.length_append, List.length_append, List.length_append, headW_len]; omega
                rw [hl] at he HS
                obtain ⟨w7, r, hw7, hr⟩ : ∃ w7 r, wo.alloc (.cells #[.int .i64 msg, .slice bp xl bc, .int .i64 blk] 39) = w7 ∧ wo.heap.size = r := ⟨_, _, rfl, rfl⟩
                have he7 : EncS b w2 l w7 := by rw [← hw7]; exact he.alloc _
                have hrb : r ≠ b := by have := he.lt; omega
                have hh7 : w7.heap[r]? = some (.cells #[.int .i64 msg, .slice bp xl bc, .int .i64 blk] 39 (0, 0)) := by rw [← hw7, ← hr]; exact heap_new _ _
                have e0 : w7.cell? ⟨r, 0, none⟩ = some (.int .i64 msg) := (Lib.cell_of_heap hh7 _).trans rfl
                have e1 : w7.cell? ⟨r, 1, none⟩ = some (.slice bp xl bc) := (Lib.cell_of_heap hh7 _).trans rfl
                have HE7 := Lib.hid he7
                have HH7 := Lib.hid hh7
                have HW7 := Lib.hid hw7
                have HRE := Lib.hid hr
                have HA := Lib.hid hA
                have HXL := Lib.hid hxl
                have HF6 := Lib.hid fx6
                clear hx hc hl he he7 hh7 hw7 hr hA hxl fx6
                go_upto_region 37 with fail
                rw [HW7.out, HRE.out]
                clear HW7 HRE c0 c1 c2
                go_wp2_with fail
                refine (eNum HE7.out 1 1 [msg, (xl : Int)] _ 2 rfl rfl (by decide) rfl (by omega) (two_in (by omega) (by omega) (by omega) (by omega)) _ rfl _ rfl).mono ?_
                rintro e w8 ⟨rfl, he8, hw8⟩
                have hh8 := hw8.keep HH7.out hrb (by decide)
                clear e0 e1
                have e1 : w8.cell? ⟨r, 1, none⟩ = some (.slice bp xl bc) := (Lib.cell_of_heap hh8 _).trans rfl
                have HE8 := Lib.hid he8
                have HH8 := Lib.hid hh8
                clear he8 hw8 hh8
                go_wp2_with fail
                refine (eInts HE8.out 1 1 bp xl bc rs HA.out HXL.out (by decide) rfl (by simp [numW_len]; omega) (fun x hx => by have := HF6.out x hx; omega)).mono ?_
                rintro e w9 ⟨rfl, he9, hw9⟩
                have hh9 := hw9.keep HH8.out hrb (by decide)
                have e2 : w9.cell? ⟨r, 2, none⟩ = some (.int .i64 blk) := (Lib.cell_of_heap hh9 _).trans rfl
                have HE9 := Lib.hid he9
                clear he9 hw9 hh9 e1
                go_wp2_with fail
                refine (eNum HE9.out 1 1 [blk + 1] _ 1 rfl rfl (by decide) rfl (by rw [List.length_append, numsW_len, HXL.out]; simp [numW_len]; omega) (one_in (by omega) (by omega)) _ rfl _ rfl).mono ?_
                rintro e w10 ⟨rfl, he10, -⟩
                have HE10 := Lib.hid he10
                clear he10 e2
                go_wp2_with fail
                go_roundw
                case rel => exact ⟨k + 1, by omega, by go_num, HE10.out.cast (by rw [HS.out]; simp [specW, HXL.out])⟩
                case measure => simp [intOf]; omega
              · have HE := Lib.hid he
                clear he
                go_wp2_with fail
                go_meet
                exact HE.out.cast (by rw [flat_end (by rw [HN.out.2.2.2.1]; omega)]; rfl)
          case rest =>
            have HE41 := Lib.hid hcut
            clear hcut HE31
            obtain ⟨we, hwe⟩ : ∃ z : World, wc = z := ⟨_, rfl⟩
            rw [hwe] at HE41 ⊢
            clear hwe
            go_wp2_with fail
            refine (bBytes _ b _ we HE41.out.buf).mono ?_
            rintro e w8 ⟨v, rfl, hown, n, rfl⟩
            have hlen : (Lib.byteCells (encodeP p)).length = (encodeP p).length := bcells_len _
            rw [hlen] at hown
            have hsw := HB2.out.size
            have HO := Lib.hid (mown_base hsw hown)
            have HB9 := Lib.hid (below_drewN (HB2.out.trans (HE41.out.below.mono hsw)) n)
            clear hown
            go_wp2_with fail
            go_ret2
            exact ⟨HB9.out, Or.inr ⟨HCKE.out, v, rfl, HO.out⟩⟩
  · have ec : ((ck : Int) == 0) = false := by rw [beq_eq_false_iff_ne]; omega
    have ec2 : ((ck : Int) != 0) = true := by rw [bne_iff_ne]; omega
    have HNE : Hid (ck ≠ 0) := Lib.hid hc0
    clear hc0
    go_wp2_with fail
    go_ret2
    refine ⟨HB2.out, Or.inl ⟨by rw [HCKE.out]; exact HNE.out, by rw [HCKE.out]; rfl⟩⟩
end Go.Proofs.YtaijdpckkobofaaDoor
