/- The reference's comparing of sends, and of equal programs. (wip/gen_rsame4.py) -/
import Derived.Test.YtaijdpckkobofaaDoorRSame1
import Derived.Deep.CutBlock
namespace Go.Proofs.YtaijdpckkobofaaDoor
open Go.RowKit
set_option linter.unusedVariables false

set_option maxRecDepth 100000 in
set_option maxHeartbeats 2000000 in
theorem rsameSpec (a1 a2 : Option Addr) (c1 c2 n1 n2 : Nat) (m1 m2 b1 b2 : Int) (x y : List Int) (w : World) (hx : IntsA w a1 x) (hy : IntsA w a2 y) (h1 : x.length = n1) (h2 : y.length = n2) (hb1 : n1 ≤ 140737488355328) (hb2 : n2 ≤ 140737488355328) (rv : Bool) (hrv : rv = true ↔ (⟨m1, x, b1⟩ : PSpec) = ⟨m2, y, b2⟩) :
    Calls Tryd.prog 43 #[.agg #[.int .i64 m1, .slice a1 n1 c1, .int .i64 b1], .agg #[.int .i64 m2, .slice a2 n2 c2, .int .i64 b2]] w fun e w' => e = .returned (.bool rv) ∧ Below w.heap.size w w' := by
  obtain ⟨P, hP⟩ : ∃ P, w.heap.size = P := ⟨_, rfl⟩
  obtain ⟨Q, hQ⟩ : ∃ Q, P + 1 = Q := ⟨_, rfl⟩
  obtain ⟨w1, hw1⟩ : ∃ w1, w.alloc (.cells #[.int .i64 m1, .slice a1 n1 c1, .int .i64 b1] 39) = w1 := ⟨_, rfl⟩
  obtain ⟨w2, hw2⟩ : ∃ w2, w1.alloc (.cells #[.int .i64 m2, .slice a2 n2 c2, .int .i64 b2] 39) = w2 := ⟨_, rfl⟩
  have hs1 : w1.heap.size = Q := by rw [← hw1, World.size_alloc]; omega
  have hb1' : Below w.heap.size w w1 := by rw [← hw1]; exact (Below.refl _ _).alloc (Nat.le_refl _) _
  have hb2' : Below w1.heap.size w1 w2 := by rw [← hw2]; exact (Below.refl _ _).alloc (Nat.le_refl _) _
  have hh1 : w2.heap[P]? = some (.cells #[.int .i64 m1, .slice a1 n1 c1, .int .i64 b1] 39 (0, 0)) := by rw [hb2'.block P (by omega), ← hw1, ← hP]; exact heap_new _ _
  have hh2 : w2.heap[Q]? = some (.cells #[.int .i64 m2, .slice a2 n2 c2, .int .i64 b2] 39 (0, 0)) := by rw [← hw2, ← hs1]; exact heap_new _ _
  have hbb : Below w.heap.size w w2 := hb1'.trans (hb2'.mono (by omega))
  obtain ⟨r, hr⟩ : ∃ r : Bool, (r = true ↔ x = y) := by
    by_cases h : x = y
    · exact ⟨true, by simp [h]⟩
    · exact ⟨false, by simp [h]⟩
  have HSI := Lib.hid (rsameInts a1 a2 c1 c2 n1 n2 x y w2 (hx.below hbb) (hy.below hbb) h1 h2 hb1 hb2 r hr)
  have x0 : w2.cell? ⟨P, 0, none⟩ = some (.int .i64 m1) := (Lib.cell_of_heap hh1 _).trans rfl
  have x1 : w2.cell? ⟨P, 1, none⟩ = some (.slice a1 n1 c1) := (Lib.cell_of_heap hh1 _).trans rfl
  have x2 : w2.cell? ⟨P, 2, none⟩ = some (.int .i64 b1) := (Lib.cell_of_heap hh1 _).trans rfl
  have y0 : w2.cell? ⟨Q, 0, none⟩ = some (.int .i64 m2) := (Lib.cell_of_heap hh2 _).trans rfl
  have y1 : w2.cell? ⟨Q, 1, none⟩ = some (.slice a2 n2 c2) := (Lib.cell_of_heap hh2 _).trans rfl
  have y2 : w2.cell? ⟨Q, 2, none⟩ = some (.int .i64 b2) := (Lib.cell_of_heap hh2 _).trans rfl
  have HBB := Lib.hid hbb
  have HV : Hid (rv = true ↔ m1 = m2 ∧ b1 = b2 ∧ r = true) := Lib.hid (by
    rw [hrv, hr]
    constructor
    · intro h
      injection h with e1 e2 e3
      exact ⟨e1, e3, e2⟩
    · rintro ⟨rfl, rfl, rfl⟩; rfl)
  have HP := Lib.hid hP
  have HQ := Lib.hid hQ
  have HW1 := Lib.hid hw1
  have HW2 := Lib.hid hw2
  clear hP hQ hw1 hw2 hs1 hb1' hb2' hh1 hh2 hbb hx hy h1 h2 hrv hr
  go_enter Tryd.func43, Tryd.ntmps43
  go_upto_region 1 with fail
  rw [HW1.out, HP.out, HQ.out, HW2.out]
  clear HW1 HP HQ HW2
  by_cases hm : m1 = m2
  · by_cases hbk : b1 = b2
    · subst hm hbk
      have HR : Hid (rv = r) := Lib.hid (by rw [Bool.eq_iff_iff, HV.out]; simp)
      go_wp2_with fail
      refine HSI.out.mono ?_
      rintro e w3 ⟨rfl, hb3⟩
      have HB3 := Lib.hid (HBB.out.trans (hb3.mono HBB.out.size))
      clear hb3
      go_wp2_with fail
      go_ret
      exact ⟨ret_bool (by rw [HR.out]), HB3.out⟩
    · have HR : Hid (rv = false) := Lib.hid (by rw [Bool.eq_false_iff]; intro h; exact hbk (HV.out.1 h).2.1)
      subst hm
      have hbk1 : (b1 == b2) = false := by rw [beq_eq_false_iff_ne]; exact hbk
      clear hbk
      go_wp2_with fail
      go_ret
      exact ⟨ret_bool (by rw [HR.out]), HBB.out⟩
  · have HR : Hid (rv = false) := Lib.hid (by rw [Bool.eq_false_iff]; intro h; exact hm (HV.out.1 h).1)
    have hm1 : (m1 == m2) = false := by rw [beq_eq_false_iff_ne]; exact hm
    clear hm
    go_wp2_with fail
    go_ret
    exact ⟨ret_bool (by rw [HR.out]), HBB.out⟩

set_option maxRecDepth 100000 in
set_option maxHeartbeats 4000000 in
theorem rsame (p : PProg) (ca ma ra sa : Option Addr) (cc mc rc sc : Nat) (da ea fa ga : Option Addr) (dc ec fc gc : Nat) (w : World) (h : PrgA w p ca cc ma mc ra rc sa sc) (h2 : PrgA w p da dc ea ec fa fc ga gc) (hml : ∀ m ∈ p.msgs, m.length ≤ 140737488355328) :
    Calls Tryd.prog 13 #[prgV p ca cc ma mc ra rc sa sc, prgV p da dc ea ec fa fc ga gc] w fun e w' => e = .returned (.bool true) ∧ Below w.heap.size w w' := by
  obtain ⟨n0, hn0⟩ : ∃ n, p.code.length = n := ⟨_, rfl⟩
  obtain ⟨n1, hn1⟩ : ∃ n, p.msgs.length = n := ⟨_, rfl⟩
  obtain ⟨n2, hn2⟩ : ∃ n, p.routes.length = n := ⟨_, rfl⟩
  obtain ⟨n3, hn3⟩ : ∃ n, p.sends.length = n := ⟨_, rfl⟩
  obtain ⟨v0, hv0⟩ : ∃ n, p.vars = n := ⟨_, rfl⟩
  obtain ⟨v1, hv1⟩ : ∃ n, p.stack = n := ⟨_, rfl⟩
  obtain ⟨v2, hv2⟩ : ∃ n, p.blocks = n := ⟨_, rfl⟩
  obtain ⟨v3, hv3⟩ : ∃ n, p.fuel = n := ⟨_, rfl⟩
  have hlc := h.lc
  have hlm := h.lm
  have hlr := h.lr
  have hls := h.ls
  rw [hn0] at hlc
  rw [hn1] at hlm
  rw [hn2] at hlr
  rw [hn3] at hls
  unfold prgV
  rw [hn0, hn1, hn2, hn3, hv0, hv1, hv2, hv3]
  obtain ⟨P, hP⟩ : ∃ P, w.heap.size = P := ⟨_, rfl⟩
  obtain ⟨Q, hQ⟩ : ∃ Q, P + 1 = Q := ⟨_, rfl⟩
  obtain ⟨w1, hw1⟩ : ∃ w1, w.alloc (.cells #[.slice ca n0 cc, .slice ma n1 mc, .slice ra n2 rc, .slice sa n3 sc, .int .i64 v0, .int .i64 v1, .int .i64 v2, .int .i64 v3] 28) = w1 := ⟨_, rfl⟩
  obtain ⟨w2, hw2⟩ : ∃ w2, w1.alloc (.cells #[.slice da n0 dc, .slice ea n1 ec, .slice fa n2 fc, .slice ga n3 gc, .int .i64 v0, .int .i64 v1, .int .i64 v2, .int .i64 v3] 28) = w2 := ⟨_, rfl⟩
  have hs1 : w1.heap.size = Q := by rw [← hw1, World.size_alloc]; omega
  have hb1' : Below w.heap.size w w1 := by rw [← hw1]; exact (Below.refl _ _).alloc (Nat.le_refl _) _
  have hb2' : Below w1.heap.size w1 w2 := by rw [← hw2]; exact (Below.refl _ _).alloc (Nat.le_refl _) _
  have hh1 : w2.heap[P]? = some (.cells #[.slice ca n0 cc, .slice ma n1 mc, .slice ra n2 rc, .slice sa n3 sc, .int .i64 v0, .int .i64 v1, .int .i64 v2, .int .i64 v3] 28 (0, 0)) := by rw [hb2'.block P (by omega), ← hw1, ← hP]; exact heap_new _ _
  have hh2 : w2.heap[Q]? = some (.cells #[.slice da n0 dc, .slice ea n1 ec, .slice fa n2 fc, .slice ga n3 gc, .int .i64 v0, .int .i64 v1, .int .i64 v2, .int .i64 v3] 28 (0, 0)) := by rw [← hw2, ← hs1]; exact heap_new _ _
  have hbb : Below w.heap.size w w2 := hb1'.trans (hb2'.mono (by omega))
  have HX := Lib.hid (h.below hbb)
  have HY := Lib.hid (h2.below hbb)
  have HQ1 := Lib.hid hh1
  have HQ2 := Lib.hid hh2
  have HBB := Lib.hid hbb
  have hPl : P < w2.heap.size := (Array.getElem?_eq_some_iff.1 hh1).1
  have hQl : Q < w2.heap.size := (Array.getElem?_eq_some_iff.1 hh2).1
  have HEQ := Lib.hid (requals ma ea mc ec n1 p.msgs w2 HX.out.msgs HY.out.msgs hn1 hlm hml)
  have HN := Lib.hid (show p.code.length = n0 ∧ p.msgs.length = n1 ∧ p.routes.length = n2 ∧ p.sends.length = n3 from ⟨hn0, hn1, hn2, hn3⟩)
  have HP := Lib.hid hP
  have HQ := Lib.hid hQ
  have HW1 := Lib.hid hw1
  have HW2 := Lib.hid hw2
  clear hP hQ hw1 hw2 hs1 hb1' hb2' hh1 hh2 hbb h h2 hn0 hn1 hn2 hn3 hv0 hv1 hv2 hv3 hml
  go_enter Tryd.func13, Tryd.ntmps13
  go_upto_region 1 with fail
  rw [HW1.out, HP.out, HQ.out, HW2.out]
  clear HW1 HP HQ HW2
  have d0 : w2.cell? ⟨P, 0, none⟩ = some (.slice ca n0 cc) := (Lib.cell_of_heap HQ1.out _).trans rfl
  have d1 : w2.cell? ⟨P, 1, none⟩ = some (.slice ma n1 mc) := (Lib.cell_of_heap HQ1.out _).trans rfl
  have d2 : w2.cell? ⟨P, 2, none⟩ = some (.slice ra n2 rc) := (Lib.cell_of_heap HQ1.out _).trans rfl
  have d3 : w2.cell? ⟨P, 3, none⟩ = some (.slice sa n3 sc) := (Lib.cell_of_heap HQ1.out _).trans rfl
  have e0 : w2.cell? ⟨Q, 0, none⟩ = some (.slice da n0 dc) := (Lib.cell_of_heap HQ2.out _).trans rfl
  have e1 : w2.cell? ⟨Q, 1, none⟩ = some (.slice ea n1 ec) := (Lib.cell_of_heap HQ2.out _).trans rfl
  have e2 : w2.cell? ⟨Q, 2, none⟩ = some (.slice fa n2 fc) := (Lib.cell_of_heap HQ2.out _).trans rfl
  have e3 : w2.cell? ⟨Q, 3, none⟩ = some (.slice ga n3 gc) := (Lib.cell_of_heap HQ2.out _).trans rfl
  go_upto_block 0 with (first | (go_at_call 25; refine HEQ.out.mono ?_; rintro e w3 ⟨rfl, hb3⟩))
  clear d0 d1 d2 d3 e0 e1 e2 e3
  have HB3 := Lib.hid hb3
  clear hb3
  go_cut [] (fun wx => Below w2.heap.size w2 wx)
  case first =>
    have d0 : w3.cell? ⟨P, 0, none⟩ = some (.slice ca n0 cc) := (HB3.out.cell (p := ⟨P, 0, none⟩) hPl).trans ((Lib.cell_of_heap HQ1.out _).trans rfl)
    go_wp2_with fail
    clear d0
    go_loopw [5] (fun ix wr => ∃ k : Nat, k ≤ n0 ∧ ix = .int .i64 k ∧ Below w2.heap.size w2 wr) (fun ix _ => n0 - (intOf ix).toNat)
    case atStart => exact ⟨0, by omega, rfl, HB3.out⟩
    case round =>
      obtain ⟨wo, hwo⟩ : ∃ wo : World, wr = wo := ⟨_, rfl⟩
      obtain ⟨k, hk, rfl, hbel⟩ := hrel
      rw [hwo] at hbel ⊢
      clear hwo
      have HB := Lib.hid hbel
      have d0 : wo.cell? ⟨P, 0, none⟩ = some (.slice ca n0 cc) := (hbel.cell (p := ⟨P, 0, none⟩) hPl).trans ((Lib.cell_of_heap HQ1.out _).trans rfl)
      have e0 : wo.cell? ⟨Q, 0, none⟩ = some (.slice da n0 dc) := (hbel.cell (p := ⟨Q, 0, none⟩) hQl).trans ((Lib.cell_of_heap HQ2.out _).trans rfl)
      by_cases hlt : k < n0
      · obtain ⟨x, hx⟩ : ∃ x, p.code[k]? = some x := ⟨_, List.getElem?_eq_getElem (by rw [HN.out.1]; exact hlt)⟩
        obtain ⟨-, g, o, ha, hg, hc⟩ := HX.out.code k x hx
        obtain ⟨-, g2, o2, ha2, hg2, hc2⟩ := HY.out.code k x hx
        obtain ⟨op, a, b⟩ := x
        have c0 : wo.cell? ⟨g, o + k * 3, none⟩ = some (.int .u8 op) := (hbel.cell (p := ⟨g, _, none⟩) hg).trans (hc 0 _ rfl)
        have c1 : wo.cell? ⟨g, o + k * 3 + 1, none⟩ = some (.int .i64 a) := (hbel.cell (p := ⟨g, _, none⟩) hg).trans (hc 1 _ rfl)
        have c2 : wo.cell? ⟨g, o + k * 3 + 2, none⟩ = some (.int .i64 b) := (hbel.cell (p := ⟨g, _, none⟩) hg).trans (hc 2 _ rfl)
        have y0 : wo.cell? ⟨g2, o2 + k * 3, none⟩ = some (.int .u8 op) := (hbel.cell (p := ⟨g2, _, none⟩) hg2).trans (hc2 0 _ rfl)
        have y1 : wo.cell? ⟨g2, o2 + k * 3 + 1, none⟩ = some (.int .i64 a) := (hbel.cell (p := ⟨g2, _, none⟩) hg2).trans (hc2 1 _ rfl)
        have y2 : wo.cell? ⟨g2, o2 + k * 3 + 2, none⟩ = some (.int .i64 b) := (hbel.cell (p := ⟨g2, _, none⟩) hg2).trans (hc2 2 _ rfl)
        subst ha ha2
        clear hx hc hc2 hbel
        go_upto_region 6 with fail
        go_cut [58] (fun s wx => s = .bool false ∧ ∃ n, wx = wo.drewN n)
        case first =>
          go_region
          all_goals (go_wp2_with fail; go_meet; exact ⟨rfl, _, rfl⟩)
        case rest =>
          obtain ⟨rfl, n, rfl⟩ := hcut
          go_wp2_with fail
          go_roundw
          case rel => exact ⟨k + 1, by omega, by go_num, below_drewN HB.out n⟩
          case measure => simp [intOf]; omega
      · clear hbel
        go_wp2_with fail
        go_meet
        exact HB.out
  case rest =>
    have HB4 := Lib.hid hcut
    clear hcut
    obtain ⟨w4, hwx⟩ : ∃ z : World, wc = z := ⟨_, rfl⟩
    rw [hwx] at HB4 ⊢
    clear hwx
    go_upto_block 2 with fail
    go_cut [] (fun wx => Below w2.heap.size w2 wx)
    case first =>
      have d2 : w4.cell? ⟨P, 2, none⟩ = some (.slice ra n2 rc) := (HB4.out.cell (p := ⟨P, 2, none⟩) hPl).trans ((Lib.cell_of_heap HQ1.out _).trans rfl)
      go_wp2_with fail
      clear d2
      go_loopw [6] (fun ix wr => ∃ k : Nat, k ≤ n2 ∧ ix = .int .i64 k ∧ Below w2.heap.size w2 wr) (fun ix _ => n2 - (intOf ix).toNat)
      case atStart => exact ⟨0, by omega, rfl, HB4.out⟩
      case round =>
        obtain ⟨wo, hwo⟩ : ∃ wo : World, wr = wo := ⟨_, rfl⟩
        obtain ⟨k, hk, rfl, hbel⟩ := hrel
        rw [hwo] at hbel ⊢
        clear hwo
        have HB := Lib.hid hbel
        have d2 : wo.cell? ⟨P, 2, none⟩ = some (.slice ra n2 rc) := (hbel.cell (p := ⟨P, 2, none⟩) hPl).trans ((Lib.cell_of_heap HQ1.out _).trans rfl)
        have e2 : wo.cell? ⟨Q, 2, none⟩ = some (.slice fa n2 fc) := (hbel.cell (p := ⟨Q, 2, none⟩) hQl).trans ((Lib.cell_of_heap HQ2.out _).trans rfl)
        by_cases hlt : k < n2
        · obtain ⟨x, hx⟩ : ∃ x, p.routes[k]? = some x := ⟨_, List.getElem?_eq_getElem (by rw [HN.out.2.2.1]; exact hlt)⟩
          obtain ⟨bp, bc, ⟨g, o, ha, hg, hc⟩, hA, -⟩ := HX.out.routes k x hx
          obtain ⟨bq, bd, ⟨g2, o2, ha2, hg2, hc2⟩, hA2, -⟩ := HY.out.routes k x hx
          have hxl := HX.out.rl k x hx
          obtain ⟨m, hm⟩ : ∃ m, x.length = m := ⟨_, rfl⟩
          rw [hm] at hxl
          have c0 : wo.cell? ⟨g, o + k, none⟩ = some (.slice bp m bc) := by rw [← hm]; exact (hbel.cell (p := ⟨g, _, none⟩) hg).trans (by simpa using hc 0 _ rfl)
          have y0 : wo.cell? ⟨g2, o2 + k, none⟩ = some (.slice bq m bd) := by rw [← hm]; exact (hbel.cell (p := ⟨g2, _, none⟩) hg2).trans (by simpa using hc2 0 _ rfl)
          have HE : Hid (∀ W, Below w2.heap.size w2 W → Calls Tryd.prog 41 #[.slice bp m bc, .slice bq m bd] W fun e w' => e = .returned (.bool true) ∧ Below W.heap.size W w') := Lib.hid (fun W hW => rsameStops bp bq bc bd m m x x W (hA.below hW) (hA2.below hW) hm hm hxl hxl true (by simp))
          subst ha ha2
          clear hx hc hc2 hbel hA hA2 hm
          go_upto_region 11 with fail
          go_cut [77] (fun s wx => s = .bool false ∧ Below wo.heap.size wo wx)
          case first =>
            go_region_with (go_at_call 41; refine (HE.out _ (by exact Below.drew HB.out)).mono ?_; rintro e w5 ⟨rfl, hb2⟩; have hb3 : Below wo.heap.size wo w5 := Below.trans (Below.drew (Below.refl _ _)) hb2)
            all_goals (go_wp2_with fail; go_meet; exact ⟨rfl, by assumption⟩)
          case rest =>
            obtain ⟨rfl, hb2⟩ := hcut
            have HB2 := Lib.hid (HB.out.trans (hb2.mono HB.out.size))
            clear hb2
            go_wp2_with fail
            go_roundw
            case rel => exact ⟨k + 1, by omega, by go_num, HB2.out⟩
            case measure => simp [intOf]; omega
        · clear hbel
          go_wp2_with fail
          go_meet
          exact HB.out
    case rest =>
      have HB5 := Lib.hid hcut
      clear hcut
      obtain ⟨w5, hwx⟩ : ∃ z : World, wc = z := ⟨_, rfl⟩
      rw [hwx] at HB5 ⊢
      clear hwx
      go_upto_block 4 with fail
      go_cut [] (fun wx => Below w2.heap.size w2 wx)
      case first =>
        have d3 : w5.cell? ⟨P, 3, none⟩ = some (.slice sa n3 sc) := (HB5.out.cell (p := ⟨P, 3, none⟩) hPl).trans ((Lib.cell_of_heap HQ1.out _).trans rfl)
        go_wp2_with fail
        clear d3
        go_loopw [7] (fun ix wr => ∃ k : Nat, k ≤ n3 ∧ ix = .int .i64 k ∧ Below w2.heap.size w2 wr) (fun ix _ => n3 - (intOf ix).toNat)
        case atStart => exact ⟨0, by omega, rfl, HB5.out⟩
        case round =>
          obtain ⟨wo, hwo⟩ : ∃ wo : World, wr = wo := ⟨_, rfl⟩
          obtain ⟨k, hk, rfl, hbel⟩ := hrel
          rw [hwo] at hbel ⊢
          clear hwo
          have HB := Lib.hid hbel
          have d3 : wo.cell? ⟨P, 3, none⟩ = some (.slice sa n3 sc) := (hbel.cell (p := ⟨P, 3, none⟩) hPl).trans ((Lib.cell_of_heap HQ1.out _).trans rfl)
          have e3 : wo.cell? ⟨Q, 3, none⟩ = some (.slice ga n3 gc) := (hbel.cell (p := ⟨Q, 3, none⟩) hQl).trans ((Lib.cell_of_heap HQ2.out _).trans rfl)
          by_cases hlt : k < n3
          · obtain ⟨x, hx⟩ : ∃ x, p.sends[k]? = some x := ⟨_, List.getElem?_eq_getElem (by rw [HN.out.2.2.2]; exact hlt)⟩
            obtain ⟨bp, bc, ⟨g, o, ha, hg, hc⟩, hA, -⟩ := HX.out.sends k x hx
            obtain ⟨bq, bd, ⟨g2, o2, ha2, hg2, hc2⟩, hA2, -⟩ := HY.out.sends k x hx
            have hxl := HX.out.sl k x hx
            obtain ⟨msg, rs, blk⟩ := x
            obtain ⟨m, hm⟩ : ∃ m, rs.length = m := ⟨_, rfl⟩
            replace hxl : m ≤ 140737488355328 := by rw [← hm]; exact hxl
            have c0 : wo.cell? ⟨g, o + k * 3, none⟩ = some (.int .i64 msg) := (hbel.cell (p := ⟨g, _, none⟩) hg).trans (hc 0 _ rfl)
            have c1 : wo.cell? ⟨g, o + k * 3 + 1, none⟩ = some (.slice bp m bc) := by rw [← hm]; exact (hbel.cell (p := ⟨g, _, none⟩) hg).trans (hc 1 _ rfl)
            have c2 : wo.cell? ⟨g, o + k * 3 + 2, none⟩ = some (.int .i64 blk) := (hbel.cell (p := ⟨g, _, none⟩) hg).trans (hc 2 _ rfl)
            have y0 : wo.cell? ⟨g2, o2 + k * 3, none⟩ = some (.int .i64 msg) := (hbel.cell (p := ⟨g2, _, none⟩) hg2).trans (hc2 0 _ rfl)
            have y1 : wo.cell? ⟨g2, o2 + k * 3 + 1, none⟩ = some (.slice bq m bd) := by rw [← hm]; exact (hbel.cell (p := ⟨g2, _, none⟩) hg2).trans (hc2 1 _ rfl)
            have y2 : wo.cell? ⟨g2, o2 + k * 3 + 2, none⟩ = some (.int .i64 blk) := (hbel.cell (p := ⟨g2, _, none⟩) hg2).trans (hc2 2 _ rfl)
            have HE : Hid (∀ W, Below w2.heap.size w2 W → Calls Tryd.prog 43 #[.agg #[.int .i64 msg, .slice bp m bc, .int .i64 blk], .agg #[.int .i64 msg, .slice bq m bd, .int .i64 blk]] W fun e w' => e = .returned (.bool true) ∧ Below W.heap.size W w') := Lib.hid (fun W hW => rsameSpec bp bq bc bd m m msg msg blk blk rs rs W (hA.below hW) (hA2.below hW) hm hm hxl hxl true (by simp))
            subst ha ha2
            clear hx hc hc2 hbel hA hA2 hm
            go_upto_region 16 with fail
            go_cut [96] (fun s wx => s = .bool false ∧ Below wo.heap.size wo wx)
            case first =>
              go_region_with (go_at_call 43; refine (HE.out _ (by exact Below.drew HB.out)).mono ?_; rintro e w5 ⟨rfl, hb2⟩; have hb3 : Below wo.heap.size wo w5 := Below.trans (Below.drew (Below.refl _ _)) hb2)
              all_goals (go_wp2_with fail; go_meet; exact ⟨rfl, by assumption⟩)
            case rest =>
              obtain ⟨rfl, hb2⟩ := hcut
              have HB2 := Lib.hid (HB.out.trans (hb2.mono HB.out.size))
              clear hb2
              go_wp2_with fail
              go_roundw
              case rel => exact ⟨k + 1, by omega, by go_num, HB2.out⟩
              case measure => simp [intOf]; omega
          · clear hbel
            go_wp2_with fail
            go_meet
            exact HB.out
      case rest =>
        have HB6 := Lib.hid hcut
        clear hcut
        obtain ⟨w6, hwx⟩ : ∃ z : World, wc = z := ⟨_, rfl⟩
        rw [hwx] at HB6 ⊢
        clear hwx
        have HB7 := Lib.hid (HBB.out.trans (HB6.out.mono HBB.out.size))
        have d4 : w6.cell? ⟨P, 4, none⟩ = some (.int .i64 v0) := (HB6.out.cell (p := ⟨P, 4, none⟩) hPl).trans ((Lib.cell_of_heap HQ1.out _).trans rfl)
        have e4 : w6.cell? ⟨Q, 4, none⟩ = some (.int .i64 v0) := (HB6.out.cell (p := ⟨Q, 4, none⟩) hQl).trans ((Lib.cell_of_heap HQ2.out _).trans rfl)
        have d5 : w6.cell? ⟨P, 5, none⟩ = some (.int .i64 v1) := (HB6.out.cell (p := ⟨P, 5, none⟩) hPl).trans ((Lib.cell_of_heap HQ1.out _).trans rfl)
        have e5 : w6.cell? ⟨Q, 5, none⟩ = some (.int .i64 v1) := (HB6.out.cell (p := ⟨Q, 5, none⟩) hQl).trans ((Lib.cell_of_heap HQ2.out _).trans rfl)
        have d6 : w6.cell? ⟨P, 6, none⟩ = some (.int .i64 v2) := (HB6.out.cell (p := ⟨P, 6, none⟩) hPl).trans ((Lib.cell_of_heap HQ1.out _).trans rfl)
        have e6 : w6.cell? ⟨Q, 6, none⟩ = some (.int .i64 v2) := (HB6.out.cell (p := ⟨Q, 6, none⟩) hQl).trans ((Lib.cell_of_heap HQ2.out _).trans rfl)
        have d7 : w6.cell? ⟨P, 7, none⟩ = some (.int .i64 v3) := (HB6.out.cell (p := ⟨P, 7, none⟩) hPl).trans ((Lib.cell_of_heap HQ1.out _).trans rfl)
        have e7 : w6.cell? ⟨Q, 7, none⟩ = some (.int .i64 v3) := (HB6.out.cell (p := ⟨Q, 7, none⟩) hQl).trans ((Lib.cell_of_heap HQ2.out _).trans rfl)
        go_wp2_with fail
        go_ret
        exact ⟨rfl, HB7.out⟩
end Go.Proofs.YtaijdpckkobofaaDoor
