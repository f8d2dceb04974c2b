/- code.Check: the error of a program's form. (wip/gen_chk5.py) -/
import Derived.Test.YtaijdpckkobofaaDoorChk4
namespace Go.Proofs.YtaijdpckkobofaaDoor
open Go.RowKit
set_option linter.unusedVariables false

def opsOk (p : PProg) : Bool := p.code.all fun i => decide (i.op ≤ 16)
def f1 (p : PProg) : Bool := p.code.all insOk
def f2 (p : PProg) : Bool := p.msgs.all fun m => decide (m.length ≤ 7200)
def f3 (p : PProg) : Bool := p.routes.all routeOk
def f4 (p : PProg) : Bool := p.sends.all specOk
theorem checkP_of (p : PProg) : checkP p = if !(opsOk p) then 1 else if !(f1 p && f2 p && f3 p && f4 p) then 3 else if !(limOk p) then 11 else 0 := rfl
theorem all_succ {α : Type} {l : List α} {p : α → Bool} {k : Nat} {x : α} (h : l[k]? = some x) : (l.take (k + 1)).all p = ((l.take k).all p && p x) := by
  rw [List.take_add_one, h, List.all_append]; simp
theorem all_end {α : Type} {l : List α} {p : α → Bool} {n : Nat} (h : l.length ≤ n) : (l.take n).all p = l.all p := by rw [List.take_of_length_le h]

theorem routes_len {w : World} {p : PProg} {ca ma ra sa : Option Addr} {cc mc rc sc : Nat} (h : PrgA w p ca cc ma mc ra rc sa sc) {k : Nat} {x : List PStop} (hx : p.routes[k]? = some x) : x.length ≤ 140737488355328 := h.rl k x hx
theorem sends_len {w : World} {p : PProg} {ca ma ra sa : Option Addr} {cc mc rc sc : Nat} (h : PrgA w p ca cc ma mc ra rc sa sc) {k : Nat} {x : PSpec} (hx : p.sends[k]? = some x) : x.routes.length ≤ 140737488355328 := h.sl k x hx

set_option maxRecDepth 100000 in
set_option maxHeartbeats 4000000 in
theorem check_any (p : PProg) (ca ma ra sa : Option Addr) (cc mc rc sc : Nat) (w : World) (h : PrgA w p ca cc ma mc ra rc sa sc) :
    Calls Tryd.prog 53 #[prgV p ca cc ma mc ra rc sa sc] w fun e w' => e = .returned (.int .i64 (checkP p : Int)) ∧ Below w.heap.size w w' := by
  obtain ⟨rv, hrv⟩ : ∃ rv : Nat, checkP p = rv := ⟨_, rfl⟩
  rw [hrv]
  have HRV := Lib.hid (hrv.symm.trans (checkP_of p))
  have HP := Lib.hid h
  have hlc := h.lc
  have hlm := h.lm
  have hlr := h.lr
  have hls := h.ls
  obtain ⟨n0, hn0⟩ : ∃ n, p.code.length = n := ⟨_, rfl⟩
  obtain ⟨n1, hn1⟩ : ∃ n, p.msgs.length = n := ⟨_, rfl⟩
  obtain ⟨n2, hn2⟩ : ∃ n, p.routes.length = n := ⟨_, rfl⟩
  obtain ⟨n3, hn3⟩ : ∃ n, p.sends.length = n := ⟨_, rfl⟩
  have HLIM := Lib.hid (show ∀ W, Below w.heap.size w W → Calls Tryd.prog 97 #[.agg #[.slice ca n0 cc, .slice ma n1 mc, .slice ra n2 rc, .slice sa n3 sc, .int .i64 p.vars, .int .i64 p.stack, .int .i64 p.blocks, .int .i64 p.fuel]] W fun e w' => e = .returned (.bool (limOk p)) ∧ Below W.heap.size W w' from fun W hW => by
    have := limits_any p ca ma ra sa cc mc rc sc W (h.below hW)
    unfold prgV at this
    rw [hn0, hn1, hn2, hn3] at this
    exact this)
  unfold prgV
  rw [hn0] at hlc
  rw [hn1] at hlm
  rw [hn2] at hlr
  rw [hn3] at hls
  rw [hn0, hn1, hn2, hn3]
  obtain ⟨w1, q, hw1, hq⟩ : ∃ w1 q, w.alloc (.cells #[.slice ca n0 cc, .slice ma n1 mc, .slice ra n2 rc, .slice sa n3 sc, .int .i64 p.vars, .int .i64 p.stack, .int .i64 p.blocks, .int .i64 p.fuel] 28) = w1 ∧ w.heap.size = q := ⟨_, _, rfl, rfl⟩
  have hb1 : Below w.heap.size w w1 := by rw [← hw1]; exact (Below.refl _ _).alloc (Nat.le_refl _) _
  have hh1 : w1.heap[q]? = some (.cells #[.slice ca n0 cc, .slice ma n1 mc, .slice ra n2 rc, .slice sa n3 sc, .int .i64 p.vars, .int .i64 p.stack, .int .i64 p.blocks, .int .i64 p.fuel] 28 (0, 0)) := by rw [← hw1, ← hq]; exact heap_new _ _
  have hql : q < w1.heap.size := (Array.getElem?_eq_some_iff.1 hh1).1
  have HQ := Lib.hid hh1
  have HB1 := Lib.hid hb1
  have hs1 := hb1.size
  have d0 : w1.cell? ⟨q, 0, none⟩ = some (.slice ca n0 cc) := (Lib.cell_of_heap hh1 _).trans rfl
  have HN0 := Lib.hid hn0
  have HN1 := Lib.hid hn1
  have HN2 := Lib.hid hn2
  have HN3 := Lib.hid hn3
  clear h hrv hh1 hb1 hn0 hn1 hn2 hn3
  go_enter Tryd.func53, Tryd.ntmps53
  go_upto_region 1 with fail
  clear hw1 hq
  go_wp2_with fail
  go_loopw [3, 15] (fun f ix wr => ∃ (k : Nat) (kb : Bool), k ≤ n0 ∧ ix = .int .i64 k ∧ f = .bool kb ∧ (p.code.take k).all insOk = kb ∧ (p.code.take k).all (fun i => decide (i.op ≤ 16)) = true ∧ Below w1.heap.size w1 wr) (fun _ ix _ => n0 - (intOf ix).toNat)
  case atStart => exact ⟨0, true, by omega, rfl, rfl, rfl, rfl, Below.refl _ _⟩
  case round =>
    obtain ⟨wo, hwo⟩ : ∃ wo : World, wr = wo := ⟨_, rfl⟩
    obtain ⟨k, kb, hk, rfl, rfl, hkb, hops, hbel⟩ := hrel
    rw [hwo] at hbel ⊢
    clear hwo
    have HKB := Lib.hid hkb
    have HOPS := Lib.hid hops
    have HB := Lib.hid hbel
    clear hkb hops
    by_cases hlt : k < n0
    · obtain ⟨x, hx⟩ : ∃ x, p.code[k]? = some x := ⟨_, List.getElem?_eq_getElem (by rw [HN0.out]; exact hlt)⟩
      obtain ⟨hop, g, o, ha, hg, hc⟩ := HP.out.code k x hx
      obtain ⟨op, a, b⟩ := x
      have hg1 : g < w1.heap.size := by omega
      have hgo : g < wo.heap.size := by have := hbel.size; omega
      have c0 : wo.cell? ⟨g, o + k * 3, none⟩ = some (.int .u8 op) := (hbel.cell (p := ⟨g, _, none⟩) hg1).trans ((HB1.out.cell (p := ⟨g, _, none⟩) hg).trans (hc 0 _ rfl))
      have c1 : wo.cell? ⟨g, o + k * 3 + 1, none⟩ = some (.int .i64 a) := (hbel.cell (p := ⟨g, _, none⟩) hg1).trans ((HB1.out.cell (p := ⟨g, _, none⟩) hg).trans (hc 1 _ rfl))
      have c2 : wo.cell? ⟨g, o + k * 3 + 2, none⟩ = some (.int .i64 b) := (hbel.cell (p := ⟨g, _, none⟩) hg1).trans ((HB1.out.cell (p := ⟨g, _, none⟩) hg).trans (hc 2 _ rfl))
      subst ha
      have hop' : op ≤ 255 := hop
      have HX := Lib.hid hx
      obtain ⟨w2, r, hw2, hr⟩ : ∃ w2 r, wo.alloc (.cells #[.int .u8 op, .int .i64 a, .int .i64 b] 33) = w2 ∧ wo.heap.size = r := ⟨_, _, rfl, rfl⟩
      have hb2 : Below wo.heap.size wo w2 := by rw [← hw2]; exact (Below.refl _ _).alloc (Nat.le_refl _) _
      have hh2 : w2.heap[r]? = some (.cells #[.int .u8 op, .int .i64 a, .int .i64 b] 33 (0, 0)) := by rw [← hw2, ← hr]; exact heap_new _ _
      have e0 : w2.cell? ⟨r, 0, none⟩ = some (.int .u8 op) := (Lib.cell_of_heap hh2 _).trans rfl
      have e1 : w2.cell? ⟨r, 1, none⟩ = some (.int .i64 a) := (Lib.cell_of_heap hh2 _).trans rfl
      have e2 : w2.cell? ⟨r, 2, none⟩ = some (.int .i64 b) := (Lib.cell_of_heap hh2 _).trans rfl
      have HB2 := Lib.hid (HB.out.trans (hb2.mono HB.out.size))
      have HIN := Lib.hid (instr_any op a b w2 hop')
      clear hx hc hbel hop hb2 hh2
      go_upto_region 5 with fail
      clear hw2 hr c0 c1 c2
      by_cases hgt : 16 < op
      · have HR : Hid (rv = 1) := Lib.hid (by
          rw [HRV.out]
          have : opsOk p = false := all_bad HX.out (by simp; omega)
          rw [this]; rfl)
        go_wp2_with fail
        go_ret
        exact ⟨ret_int (by rw [HR.out]; rfl), HB1.out.trans (HB2.out.mono hs1)⟩
      · have HOPN : Hid ((p.code.take (k + 1)).all (fun i => decide (i.op ≤ 16)) = true) := Lib.hid (all_take_succ HX.out HOPS.out (by simp; omega))
        cases kb
        · go_wp2_with fail
          go_roundw
          case rel => exact ⟨k + 1, false, by omega, by go_num, rfl, by rw [all_succ HX.out, HKB.out]; rfl, HOPN.out, HB2.out⟩
          case measure => simp [intOf]; omega
        · go_wp2_with fail
          refine HIN.out.mono ?_
          rintro e w3 ⟨rfl, hb3⟩
          have HB3 := Lib.hid (HB2.out.trans (hb3.mono HB2.out.size))
          obtain ⟨kn, hkn⟩ : ∃ kn, insOk ⟨op, a, b⟩ = kn := ⟨_, rfl⟩
          rw [hkn]
          have HKN := Lib.hid hkn
          clear hb3 hkn
          go_wp2_with fail
          go_roundw
          case rel => exact ⟨k + 1, kn, by omega, by go_num, rfl, by rw [all_succ HX.out, HKB.out, HKN.out]; rfl, HOPN.out, HB3.out⟩
          case measure => simp [intOf]; omega
    · obtain rfl : n0 = k := by omega
      have HOP1 : Hid (opsOk p = true) := Lib.hid (by unfold opsOk; rw [← all_end (Nat.le_of_eq HN0.out)]; exact HOPS.out)
      have HF1 : Hid (f1 p = kb) := Lib.hid (by unfold f1; rw [← all_end (Nat.le_of_eq HN0.out)]; exact HKB.out)
      have hbo := hbel.size
      have hqo : q < wo.heap.size := by omega
      have d1 : wo.cell? ⟨q, 1, none⟩ = some (.slice ma n1 mc) := (hbel.cell (p := ⟨q, 1, none⟩) hql).trans ((Lib.cell_of_heap HQ.out _).trans rfl)
      clear hbel hlt hk
      go_wp2_with fail
      go_loop [3, 31] (fun f ix => ∃ (k : Nat) (kc : Bool), k ≤ n1 ∧ ix = .int .i64 k ∧ f = .bool kc ∧ (kb && (p.msgs.take k).all (fun m => decide (m.length ≤ 7200))) = kc) (fun _ ix => n1 - (intOf ix).toNat)
      case atStart => exact ⟨0, kb, by omega, rfl, rfl, by simp⟩
      case round =>
        obtain ⟨k, kc, hk, rfl, rfl, hkc⟩ := hrel
        have HKC := Lib.hid hkc
        clear hkc
        by_cases hlt : k < n1
        · obtain ⟨x, hx⟩ : ∃ x, p.msgs[k]? = some x := ⟨_, List.getElem?_eq_getElem (by rw [HN1.out]; exact hlt)⟩
          obtain ⟨bp, bc, ⟨g, o, ha, hg, hc⟩, _, hbc⟩ := HP.out.msgs k x hx
          have c0 : wo.cell? ⟨g, o + k, none⟩ = some (.slice bp x.length bc) := (HB.out.cell (p := ⟨g, _, none⟩) (by show g < _; omega)).trans ((HB1.out.cell (p := ⟨g, _, none⟩) hg).trans (by simpa using hc 0 _ rfl))
          subst ha
          have HX := Lib.hid hx
          obtain ⟨xl, hxl⟩ : ∃ xl, x.length = xl := ⟨_, rfl⟩
          rw [hxl] at c0
          have HXL := Lib.hid hxl
          clear hx hc hbc hxl
          cases kc
          · go_wp2_with fail
            go_round
            case rel => exact ⟨k + 1, false, by omega, by go_num, rfl, by rw [all_succ HX.out, ← Bool.and_assoc, HKC.out]; rfl⟩
            case measure => simp [intOf]; omega
          · by_cases hxs : xl ≤ 7200
            · go_wp2_with fail
              go_round
              case rel => exact ⟨k + 1, true, by omega, by go_num, by (first | rfl | (simp; omega)), by rw [all_succ HX.out, ← Bool.and_assoc, HKC.out, HXL.out]; simp [hxs]⟩
              case measure => simp [intOf]; omega
            · go_wp2_with fail
              go_round
              case rel => exact ⟨k + 1, false, by omega, by go_num, by (first | rfl | (simp; omega)), by rw [all_succ HX.out, ← Bool.and_assoc, HKC.out, HXL.out]; simp [hxs]⟩
              case measure => simp [intOf]; omega
        · obtain rfl : n1 = k := by omega
          have HF2 : Hid ((f1 p && f2 p) = kc) := Lib.hid (by unfold f2; rw [← all_end (Nat.le_of_eq HN1.out), HF1.out]; exact HKC.out)
          have d2 : wo.cell? ⟨q, 2, none⟩ = some (.slice ra n2 rc) := (HB.out.cell (p := ⟨q, 2, none⟩) hql).trans ((Lib.cell_of_heap HQ.out _).trans rfl)
          clear hlt hk d1
          go_wp2_with fail
          go_loopw [3, 45] (fun f ix wr => ∃ (k : Nat) (kd : Bool), k ≤ n2 ∧ ix = .int .i64 k ∧ f = .bool kd ∧ (kc && (p.routes.take k).all routeOk) = kd ∧ Below wo.heap.size wo wr) (fun _ ix _ => n2 - (intOf ix).toNat)
          case atStart => exact ⟨0, kc, by omega, rfl, rfl, by simp, Below.refl _ _⟩
          case round =>
            obtain ⟨w5, hwo⟩ : ∃ w5 : World, wr = w5 := ⟨_, rfl⟩
            obtain ⟨k, kd, hk, rfl, rfl, hkd, hbel⟩ := hrel
            rw [hwo] at hbel ⊢
            clear hwo
            have HKD := Lib.hid hkd
            have HB5 := Lib.hid hbel
            clear hkd
            by_cases hlt : k < n2
            · obtain ⟨x, hx⟩ : ∃ x, p.routes[k]? = some x := ⟨_, List.getElem?_eq_getElem (by rw [HN2.out]; exact hlt)⟩
              obtain ⟨bp, bc, ⟨g, o, ha, hg, hc⟩, hst, hbc⟩ := HP.out.routes k x hx
              have c0 : w5.cell? ⟨g, o + k, none⟩ = some (.slice bp x.length bc) := (hbel.cell (p := ⟨g, _, none⟩) (by show g < _; omega)).trans ((HB.out.cell (p := ⟨g, _, none⟩) (by show g < _; omega)).trans ((HB1.out.cell (p := ⟨g, _, none⟩) hg).trans (by simpa using hc 0 _ rfl)))
              subst ha
              have HX := Lib.hid hx
              have hst5 := ((hst.below HB1.out).below HB.out).below hbel
              obtain ⟨kn, hkn⟩ : ∃ kn, routeOk x = kn := ⟨_, rfl⟩
              have HKN := Lib.hid hkn
              have hxl := routes_len HP.out HX.out
              obtain ⟨xl, hxle⟩ : ∃ xl, x.length = xl := ⟨_, rfl⟩
              have HRO := Lib.hid (route_any bp xl bc x w5 hst5 hxle (by omega))
              rw [hkn] at HRO
              rw [hxle] at c0
              clear hx hc hbc hst hst5 hkn hbel hxle hxl
              cases kd
              · go_wp2_with fail
                go_roundw
                case rel => exact ⟨k + 1, false, by omega, by go_num, rfl, by rw [all_succ HX.out, ← Bool.and_assoc, HKD.out]; rfl, HB5.out⟩
                case measure => simp [intOf]; omega
              · go_wp2_with fail
                refine HRO.out.mono ?_
                rintro e w6 ⟨rfl, hb6⟩
                have HB6 := Lib.hid (HB5.out.trans (hb6.mono HB5.out.size))
                clear hb6
                go_wp2_with fail
                go_roundw
                case rel => exact ⟨k + 1, kn, by omega, by go_num, rfl, by rw [all_succ HX.out, ← Bool.and_assoc, HKD.out, HKN.out]; rfl, HB6.out⟩
                case measure => simp [intOf]; omega
            · obtain rfl : n2 = k := by omega
              have HF3 : Hid ((f1 p && f2 p && f3 p) = kd) := Lib.hid (by unfold f3; rw [← all_end (Nat.le_of_eq HN2.out), HF2.out]; exact HKD.out)
              have hb5s := hbel.size
              have hq5 : q < w5.heap.size := by omega
              have d3 : w5.cell? ⟨q, 3, none⟩ = some (.slice sa n3 sc) := (hbel.cell (p := ⟨q, 3, none⟩) hqo).trans ((HB.out.cell (p := ⟨q, 3, none⟩) hql).trans ((Lib.cell_of_heap HQ.out _).trans rfl))
              have HQ5 := Lib.hid ((hbel.block q hqo).trans ((HB.out.block q hql).trans HQ.out))
              have HP5 := Lib.hid (((HP.out.below HB1.out).below HB.out).below hbel)
              have HB05 := Lib.hid (HB1.out.trans ((HB.out.trans (hbel.mono hbo)).mono hs1))
              clear hlt hk d2 hbel
              go_wp2_with fail
              go_loopw [3, 58] (fun f ix wr => ∃ (k : Nat) (ke : Bool), k ≤ n3 ∧ ix = .int .i64 k ∧ f = .bool ke ∧ (kd && (p.sends.take k).all specOk) = ke ∧ Below w5.heap.size w5 wr) (fun _ ix _ => n3 - (intOf ix).toNat)
              case atStart => exact ⟨0, kd, by omega, rfl, rfl, by simp, Below.refl _ _⟩
              case round =>
                obtain ⟨w7, hwo⟩ : ∃ w7 : World, wr = w7 := ⟨_, rfl⟩
                obtain ⟨k, ke, hk, rfl, rfl, hke, hbel⟩ := hrel
                rw [hwo] at hbel ⊢
                clear hwo
                have HKE := Lib.hid hke
                have HB7 := Lib.hid hbel
                clear hke
                have hb7s := hbel.size
                by_cases hlt : k < n3
                · obtain ⟨x, hx⟩ : ∃ x, p.sends[k]? = some x := ⟨_, List.getElem?_eq_getElem (by rw [HN3.out]; exact hlt)⟩
                  obtain ⟨bp, bc, ⟨g, o, ha, hg, hc⟩, hst, hbc⟩ := HP5.out.sends k x hx
                  have hxl := sends_len HP5.out hx
                  obtain ⟨msg, rs, blk⟩ := x
                  have hg7 : g < w7.heap.size := by omega
                  obtain ⟨xl, hxle⟩ : ∃ xl, rs.length = xl := ⟨_, rfl⟩
                  have c0 : w7.cell? ⟨g, o + k * 3, none⟩ = some (.int .i64 msg) := (hbel.cell (p := ⟨g, _, none⟩) hg).trans (hc 0 _ rfl)
                  have c1 : w7.cell? ⟨g, o + k * 3 + 1, none⟩ = some (.slice bp xl bc) := by rw [← hxle]; exact (hbel.cell (p := ⟨g, _, none⟩) hg).trans (hc 1 _ rfl)
                  have c2 : w7.cell? ⟨g, o + k * 3 + 2, none⟩ = some (.int .i64 blk) := (hbel.cell (p := ⟨g, _, none⟩) hg).trans (hc 2 _ rfl)
                  subst ha
                  have HX := Lib.hid hx
                  obtain ⟨kn, hkn⟩ : ∃ kn, specOk ⟨msg, rs, blk⟩ = kn := ⟨_, rfl⟩
                  have HKN := Lib.hid hkn
                  obtain ⟨w8, r, hw8, hr⟩ : ∃ w8 r, w7.alloc (.cells #[.int .i64 msg, .slice bp xl bc, .int .i64 blk] 39) = w8 ∧ w7.heap.size = r := ⟨_, _, rfl, rfl⟩
                  have hb8 : Below w7.heap.size w7 w8 := by rw [← hw8]; exact (Below.refl _ _).alloc (Nat.le_refl _) _
                  have hh8 : w8.heap[r]? = some (.cells #[.int .i64 msg, .slice bp xl bc, .int .i64 blk] 39 (0, 0)) := by rw [← hw8, ← hr]; exact heap_new _ _
                  have e0 : w8.cell? ⟨r, 0, none⟩ = some (.int .i64 msg) := (Lib.cell_of_heap hh8 _).trans rfl
                  have e1 : w8.cell? ⟨r, 1, none⟩ = some (.slice bp xl bc) := (Lib.cell_of_heap hh8 _).trans rfl
                  have e2 : w8.cell? ⟨r, 2, none⟩ = some (.int .i64 blk) := (Lib.cell_of_heap hh8 _).trans rfl
                  have HB8 := Lib.hid (HB7.out.trans (hb8.mono HB7.out.size))
                  have HSP := Lib.hid (spec_any msg blk bp xl bc rs w8 ((hst.below HB7.out).below hb8) hxle (by have h2 : rs.length ≤ 140737488355328 := hxl; omega))
                  rw [hkn] at HSP
                  clear hx hc hbc hst hkn hbel hxle hxl hb8 hh8
                  go_upto_region 22 with fail
                  clear hw8 hr c0 c1 c2
                  cases ke
                  · go_wp2_with fail
                    go_roundw
                    case rel => exact ⟨k + 1, false, by omega, by go_num, rfl, by rw [all_succ HX.out, ← Bool.and_assoc, HKE.out]; rfl, HB8.out⟩
                    case measure => simp [intOf]; omega
                  · go_wp2_with fail
                    refine HSP.out.mono ?_
                    rintro e w9 ⟨rfl, hb9⟩
                    have HB9 := Lib.hid (HB8.out.trans (hb9.mono HB8.out.size))
                    clear hb9
                    go_wp2_with fail
                    go_roundw
                    case rel => exact ⟨k + 1, kn, by omega, by go_num, rfl, by rw [all_succ HX.out, ← Bool.and_assoc, HKE.out, HKN.out]; rfl, HB9.out⟩
                    case measure => simp [intOf]; omega
                · obtain rfl : n3 = k := by omega
                  have HF4 : Hid ((f1 p && f2 p && f3 p && f4 p) = ke) := Lib.hid (by unfold f4; rw [← all_end (Nat.le_of_eq HN3.out), HF3.out]; exact HKE.out)
                  have HB07 := Lib.hid (HB05.out.trans (hbel.mono HB05.out.size))
                  have HQ7 := Lib.hid ((hbel.block q hq5).trans HQ5.out)
                  clear hlt hk d3 hbel
                  cases ke
                  · have HR : Hid (rv = 3) := Lib.hid (by rw [HRV.out, HOP1.out, HF4.out]; rfl)
                    go_wp2_with fail
                    go_ret
                    exact ⟨ret_int (by rw [HR.out]; rfl), HB07.out⟩
                  · have g0 : w7.cell? ⟨q, 0, none⟩ = some (.slice ca n0 cc) := (Lib.cell_of_heap HQ7.out _).trans rfl
                    have g1 : w7.cell? ⟨q, 1, none⟩ = some (.slice ma n1 mc) := (Lib.cell_of_heap HQ7.out _).trans rfl
                    have g2 : w7.cell? ⟨q, 2, none⟩ = some (.slice ra n2 rc) := (Lib.cell_of_heap HQ7.out _).trans rfl
                    have g3 : w7.cell? ⟨q, 3, none⟩ = some (.slice sa n3 sc) := (Lib.cell_of_heap HQ7.out _).trans rfl
                    have g4 : w7.cell? ⟨q, 4, none⟩ = some (.int .i64 p.vars) := (Lib.cell_of_heap HQ7.out _).trans rfl
                    have g5 : w7.cell? ⟨q, 5, none⟩ = some (.int .i64 p.stack) := (Lib.cell_of_heap HQ7.out _).trans rfl
                    have g6 : w7.cell? ⟨q, 6, none⟩ = some (.int .i64 p.blocks) := (Lib.cell_of_heap HQ7.out _).trans rfl
                    have g7 : w7.cell? ⟨q, 7, none⟩ = some (.int .i64 p.fuel) := (Lib.cell_of_heap HQ7.out _).trans rfl
                    have HL7 := Lib.hid (HLIM.out w7 HB07.out)
                    obtain ⟨kl, hkl⟩ : ∃ kl, limOk p = kl := ⟨_, rfl⟩
                    rw [hkl] at HL7
                    have HR : Hid (rv = if kl then 0 else 11) := Lib.hid (by rw [HRV.out, HOP1.out, HF4.out, hkl]; cases kl <;> rfl)
                    clear hkl
                    cases kl
                    all_goals
                      go_wp2_with fail
                      refine HL7.out.mono ?_
                      rintro e w9 ⟨rfl, hb9⟩
                      have HB9 := Lib.hid (HB07.out.trans (hb9.mono HB07.out.size))
                      clear hb9 g0 g1 g2 g3 g4 g5 g6 g7
                      go_wp2_with fail
                      go_ret
                      exact ⟨ret_int (by rw [HR.out]; rfl), HB9.out⟩
end Go.Proofs.YtaijdpckkobofaaDoor
