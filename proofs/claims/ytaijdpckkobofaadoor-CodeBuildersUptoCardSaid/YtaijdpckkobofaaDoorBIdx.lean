/- The first place of what is equal: the closures of Builder.Msg, Route and Send, slices.IndexFunc over them, the law's made. (wip/gen_bidx.py) -/
import Derived.Test.YtaijdpckkobofaaDoorBEq
namespace Go.Proofs.YtaijdpckkobofaaDoor
open Go.RowKit
set_option linter.unusedVariables false

def IsFirst {α : Type} (l : List α) (y : α) (k : Nat) : Prop := k ≤ l.length ∧ (∀ j, j < k → l[j]? ≠ some y) ∧ (k < l.length → l[k]? = some y)
theorem IsFirst.uniq {α : Type} {l : List α} {y : α} {k k' : Nat} (h : IsFirst l y k) (h' : IsFirst l y k') : k = k' := by
  rcases Nat.lt_trichotomy k k' with h1 | h1 | h1
  · exact absurd (h.2.2 (by have := h'.1; omega)) (h'.2.1 k h1)
  · exact h1
  · exact absurd (h'.2.2 (by have := h.1; omega)) (h.2.1 k' h1)
theorem dec_ex (p : Prop) : ∃ r : Bool, (r = true ↔ p) := by
  by_cases h : p
  · exact ⟨true, by simp [h]⟩
  · exact ⟨false, by simp [h]⟩
theorem next_ne {α : Type} {l : List α} {y x : α} {k : Nat} (h : ∀ j, j < k → l[j]? ≠ some y) (hx : l[k]? = some x) (hne : x ≠ y) : ∀ j, j < k + 1 → l[j]? ≠ some y := by
  intro j hj
  by_cases h1 : j < k
  · exact h j h1
  · obtain rfl : j = k := by omega
    rw [hx]; intro e; exact hne (Option.some.inj e)

set_option maxRecDepth 100000 in
theorem msg_c1 (a1 a2 : Option Addr) (c1 c2 n1 n2 q : Nat) (x y : List UInt8) (w : World) (hx : BsA w a1 x) (hy : BsA w a2 y) (h1 : x.length = n1) (h2 : y.length = n2) (hq : w.cell? ⟨q, 0, none⟩ = some (.slice a2 n2 c2)) (rv : Bool) (hrv : rv = true ↔ x = y) :
    Calls Tryd.prog 80 #[.slice a1 n1 c1, .pointer (some ⟨q, 0, none⟩)] w fun e w' => e = .returned (.bool rv) ∧ Below w.heap.size w w' := by
  have HE := Lib.hid (bequal a1 a2 c1 c2 n1 n2 x y w hx hy h1 h2 rv hrv)
  clear hx hy h1 h2 hrv
  go_enter Tryd.func80, Tryd.ntmps80
  go_wp2_with fail
  refine HE.out.mono ?_
  rintro e w' ⟨rfl, rfl⟩
  go_wp2_with fail
  go_ret
  exact ⟨rfl, Below.refl _ _⟩
set_option maxRecDepth 100000 in
theorem route_c1 (a1 a2 : Option Addr) (c1 c2 n1 n2 q : Nat) (x y : List PStop) (w : World) (hx : StopsA w a1 x) (hy : StopsA w a2 y) (h1 : x.length = n1) (h2 : y.length = n2) (hb1 : n1 ≤ 140737488355328) (hb2 : n2 ≤ 140737488355328) (hq : w.cell? ⟨q, 0, none⟩ = some (.slice a2 n2 c2)) (rv : Bool) (hrv : rv = true ↔ x = y) :
    Calls Tryd.prog 84 #[.slice a1 n1 c1, .pointer (some ⟨q, 0, none⟩)] w fun e w' => e = .returned (.bool rv) ∧ Below w.heap.size w w' := by
  have HE := Lib.hid (sequalStops a1 a2 c1 c2 n1 n2 x y w hx hy h1 h2 hb1 hb2 rv hrv)
  clear hx hy h1 h2 hrv
  go_enter Tryd.func84, Tryd.ntmps84
  go_wp2_with fail
  refine HE.out.mono ?_
  rintro e w' ⟨rfl, hb⟩
  go_wp2_with fail
  go_ret
  exact ⟨rfl, hb⟩
set_option maxRecDepth 100000 in
set_option maxHeartbeats 1000000 in
theorem send_c1 (a1 a2 : Option Addr) (c1 c2 n1 n2 q : Nat) (m1 m2 b1 b2 : Int) (x y : List Int) (w : World) (hx : IntsA w a1 x) (hy : IntsA w a2 y) (h1 : x.length = n1) (h2 : y.length = n2) (hb1 : n1 ≤ 140737488355328) (hb2 : n2 ≤ 140737488355328) (hq0 : w.cell? ⟨q, 0, none⟩ = some (.int .i64 m2)) (hq1 : w.cell? ⟨q, 1, none⟩ = some (.slice a2 n2 c2)) (hq2 : w.cell? ⟨q, 2, none⟩ = some (.int .i64 b2)) (rv : Bool) (hrv : rv = true ↔ (⟨m1, x, b1⟩ : PSpec) = ⟨m2, y, b2⟩) :
    Calls Tryd.prog 89 #[.agg #[.int .i64 m1, .slice a1 n1 c1, .int .i64 b1], .pointer (some ⟨q, 0, none⟩)] w fun e w' => e = .returned (.bool rv) ∧ Below w.heap.size w w' := by
  obtain ⟨w1, P, hw1, hP⟩ : ∃ w1 P, w.alloc (.cells #[.int .i64 m1, .slice a1 n1 c1, .int .i64 b1] 39) = w1 ∧ w.heap.size = P := ⟨_, _, rfl, rfl⟩
  have hbb : Below w.heap.size w w1 := by rw [← hw1]; exact (Below.refl _ _).alloc (Nat.le_refl _) _
  have hh1 : w1.heap[P]? = some (.cells #[.int .i64 m1, .slice a1 n1 c1, .int .i64 b1] 39 (0, 0)) := by rw [← hw1, ← hP]; exact heap_new _ _
  obtain ⟨r, hr⟩ := dec_ex (x = y)
  have HSI := Lib.hid (sequalInts a1 a2 c1 c2 n1 n2 x y w1 (hx.below hbb) (hy.below hbb) h1 h2 hb1 hb2 r hr)
  have x0 : w1.cell? ⟨P, 0, none⟩ = some (.int .i64 m1) := (Lib.cell_of_heap hh1 _).trans rfl
  have x1 : w1.cell? ⟨P, 1, none⟩ = some (.slice a1 n1 c1) := (Lib.cell_of_heap hh1 _).trans rfl
  have x2 : w1.cell? ⟨P, 2, none⟩ = some (.int .i64 b1) := (Lib.cell_of_heap hh1 _).trans rfl
  have hql := mcell_lt hq0
  have y0 : w1.cell? ⟨q, 0, none⟩ = some (.int .i64 m2) := (hbb.cell (p := ⟨q, 0, none⟩) hql).trans hq0
  have y1 : w1.cell? ⟨q, 1, none⟩ = some (.slice a2 n2 c2) := (hbb.cell (p := ⟨q, 1, none⟩) hql).trans hq1
  have y2 : w1.cell? ⟨q, 2, none⟩ = some (.int .i64 b2) := (hbb.cell (p := ⟨q, 2, none⟩) hql).trans hq2
  have HBB := Lib.hid hbb
  have HV : Hid (rv = true ↔ m1 = m2 ∧ b1 = b2 ∧ r = true) := Lib.hid (by
    rw [hrv, hr]
    constructor
    · intro h
      injection h with e1 e2 e3
      exact ⟨e1, e3, e2⟩
    · rintro ⟨rfl, rfl, rfl⟩; rfl)
  have HP := Lib.hid hP
  have HW1 := Lib.hid hw1
  clear hP hw1 hbb hh1 hx hy h1 h2 hrv hr hq0 hq1 hq2 hql
  go_enter Tryd.func89, Tryd.ntmps89
  go_upto_region 1 with fail
  rw [HW1.out, HP.out]
  clear HW1 HP
  by_cases hm : m1 = m2
  · by_cases hbk : b1 = b2
    · subst hm hbk
      have HR : Hid (rv = r) := Lib.hid (by rw [Bool.eq_iff_iff, HV.out]; simp)
      go_wp2_with fail
      refine HSI.out.mono ?_
      rintro e w3 ⟨rfl, hb3⟩
      have HB3 := Lib.hid (HBB.out.trans (hb3.mono HBB.out.size))
      clear hb3
      go_wp2_with fail
      go_ret
      exact ⟨ret_bool (by rw [HR.out]), HB3.out⟩
    · have HR : Hid (rv = false) := Lib.hid (by rw [Bool.eq_false_iff]; intro h; exact hbk (HV.out.1 h).2.1)
      subst hm
      have hbk1 : (b1 == b2) = false := by rw [beq_eq_false_iff_ne]; exact hbk
      clear hbk
      go_wp2_with fail
      go_ret
      exact ⟨ret_bool (by rw [HR.out]), HBB.out⟩
  · have HR : Hid (rv = false) := Lib.hid (by rw [Bool.eq_false_iff]; intro h; exact hm (HV.out.1 h).1)
    have hm1 : (m1 == m2) = false := by rw [beq_eq_false_iff_ne]; exact hm
    clear hm
    go_wp2_with fail
    go_ret
    exact ⟨ret_bool (by rw [HR.out]), HBB.out⟩

set_option maxRecDepth 100000 in
set_option maxHeartbeats 1000000 in
theorem indexf_b (a : Option Addr) (n c q : Nat) (l : List (List UInt8)) (y : (List UInt8)) (w : World) (hl : MsgsA w a l) (hn : l.length = n) (hb : n ≤ 140737488355328) (a2 : Option Addr) (n2 c2 : Nat) (hy : BsA w a2 y) (h2 : y.length = n2) (hq : w.cell? ⟨q, 0, none⟩ = some (.slice a2 n2 c2)) :
    Calls Tryd.prog 79 #[.slice a n c, .func (.func 80) #[] #[.pointer (some ⟨q, 0, none⟩)]] w fun e w' => (∃ k, IsFirst l y k ∧ e = .returned (.int .i64 (if k < n then (k : Int) else -1))) ∧ Below w.heap.size w w' := by
  have HL := Lib.hid hl
  have HN := Lib.hid hn
  have hql := mcell_lt hq
  have HY := Lib.hid hy
  have H2 := Lib.hid h2
  have HQ := Lib.hid hq
  clear hl hn hy h2 hq
  go_enter Tryd.func79, Tryd.ntmps79
  go_wp2_with fail
  go_loopw [8] (fun ix wr => ∃ k : Nat, k ≤ n ∧ ix = .int .i64 k ∧ (∀ j, j < k → l[j]? ≠ some y) ∧ Below w.heap.size w wr) (fun ix _ => n - (intOf ix).toNat)
  case atStart => exact ⟨0, by omega, rfl, fun j hj => by omega, Below.refl _ _⟩
  case round =>
    obtain ⟨wo, hwo⟩ : ∃ wo : World, wr = wo := ⟨_, rfl⟩
    obtain ⟨k, hk, rfl, hne, hbel⟩ := hrel
    rw [hwo] at hbel ⊢
    clear hwo
    have HNE := Lib.hid hne
    have HB := Lib.hid hbel
    clear hne
    by_cases hlt : k < n
    · obtain ⟨x, hx⟩ : ∃ x, l[k]? = some x := ⟨_, List.getElem?_eq_getElem (by rw [HN.out]; exact hlt)⟩
      obtain ⟨p1, q1, ⟨g1, o1, e1, l1, k1⟩, hA1, _⟩ := (HL.out.below hbel) k x hx
      obtain ⟨m, hm⟩ : ∃ m, x.length = m := ⟨_, rfl⟩
      have d1 : wo.cell? ⟨g1, o1 + k, none⟩ = some (.slice p1 m q1) := by rw [← hm]; simpa using k1 0 _ rfl
      subst e1
      have HX := Lib.hid hx
      obtain ⟨rv, hrv⟩ := dec_ex (x = y)
      have HRV := Lib.hid hrv
      have HC := Lib.hid (msg_c1 p1 a2 q1 c2 m n2 q x y wo hA1 (HY.out.below hbel) hm H2.out ((hbel.cell (p := ⟨q, 0, none⟩) hql).trans HQ.out) rv hrv)
      clear hx hbel hrv k1 hA1 hm
      go_wp2_with fail
      refine HC.out.mono ?_
      rintro e w2 ⟨rfl, hb2⟩
      have HB2 := Lib.hid (HB.out.trans (hb2.mono HB.out.size))
      clear hb2
      cases rv
      · have hxy : ¬ x = y := fun h => by have := HRV.out.2 h; cases this
        go_wp2_with fail
        go_roundw
        case rel => exact ⟨k + 1, by omega, by go_num, next_ne HNE.out HX.out hxy, HB2.out⟩
        case measure => simp [intOf]; omega
      · have hxy : x = y := HRV.out.1 rfl
        go_wp2_with fail
        go_ret
        exact ⟨⟨k, ⟨by rw [HN.out]; omega, HNE.out, fun _ => by rw [HX.out, hxy]⟩, by rw [if_pos hlt]; rfl⟩, HB2.out⟩
    · go_wp2_with fail
      go_ret
      exact ⟨⟨k, ⟨by rw [HN.out]; omega, HNE.out, fun h => by rw [HN.out] at h; omega⟩, by rw [if_neg hlt]; rfl⟩, HB.out⟩

set_option maxRecDepth 100000 in
set_option maxHeartbeats 1000000 in
theorem indexf_r (a : Option Addr) (n c q : Nat) (l : List (List PStop)) (y : (List PStop)) (w : World) (hl : RoutesA w a l) (hn : l.length = n) (hb : n ≤ 140737488355328) (hll : ∀ x ∈ l, x.length ≤ 140737488355328) (a2 : Option Addr) (n2 c2 : Nat) (hy : StopsA w a2 y) (h2 : y.length = n2) (hb2 : n2 ≤ 140737488355328) (hq : w.cell? ⟨q, 0, none⟩ = some (.slice a2 n2 c2)) :
    Calls Tryd.prog 83 #[.slice a n c, .func (.func 84) #[] #[.pointer (some ⟨q, 0, none⟩)]] w fun e w' => (∃ k, IsFirst l y k ∧ e = .returned (.int .i64 (if k < n then (k : Int) else -1))) ∧ Below w.heap.size w w' := by
  have HL := Lib.hid hl
  have HN := Lib.hid hn
  have hql := mcell_lt hq
  have HY := Lib.hid hy
  have H2 := Lib.hid h2
  have HQ := Lib.hid hq
  have HLL := Lib.hid hll
  clear hl hn hy h2 hq hll
  go_enter Tryd.func83, Tryd.ntmps83
  go_wp2_with fail
  go_loopw [8] (fun ix wr => ∃ k : Nat, k ≤ n ∧ ix = .int .i64 k ∧ (∀ j, j < k → l[j]? ≠ some y) ∧ Below w.heap.size w wr) (fun ix _ => n - (intOf ix).toNat)
  case atStart => exact ⟨0, by omega, rfl, fun j hj => by omega, Below.refl _ _⟩
  case round =>
    obtain ⟨wo, hwo⟩ : ∃ wo : World, wr = wo := ⟨_, rfl⟩
    obtain ⟨k, hk, rfl, hne, hbel⟩ := hrel
    rw [hwo] at hbel ⊢
    clear hwo
    have HNE := Lib.hid hne
    have HB := Lib.hid hbel
    clear hne
    by_cases hlt : k < n
    · obtain ⟨x, hx⟩ : ∃ x, l[k]? = some x := ⟨_, List.getElem?_eq_getElem (by rw [HN.out]; exact hlt)⟩
      obtain ⟨p1, q1, ⟨g1, o1, e1, l1, k1⟩, hA1, _⟩ := (HL.out.below hbel) k x hx
      have hxl := HLL.out x (List.mem_of_getElem? hx)
      obtain ⟨m, hm⟩ : ∃ m, x.length = m := ⟨_, rfl⟩
      have d1 : wo.cell? ⟨g1, o1 + k, none⟩ = some (.slice p1 m q1) := by rw [← hm]; simpa using k1 0 _ rfl
      subst e1
      have HX := Lib.hid hx
      obtain ⟨rv, hrv⟩ := dec_ex (x = y)
      have HRV := Lib.hid hrv
      have HC := Lib.hid (route_c1 p1 a2 q1 c2 m n2 q x y wo hA1 (HY.out.below hbel) hm H2.out (by omega) hb2 ((hbel.cell (p := ⟨q, 0, none⟩) hql).trans HQ.out) rv hrv)
      clear hx hbel hrv k1 hA1 hm hxl
      go_wp2_with fail
      refine HC.out.mono ?_
      rintro e w2 ⟨rfl, hb2⟩
      have HB2 := Lib.hid (HB.out.trans (hb2.mono HB.out.size))
      clear hb2
      cases rv
      · have hxy : ¬ x = y := fun h => by have := HRV.out.2 h; cases this
        go_wp2_with fail
        go_roundw
        case rel => exact ⟨k + 1, by omega, by go_num, next_ne HNE.out HX.out hxy, HB2.out⟩
        case measure => simp [intOf]; omega
      · have hxy : x = y := HRV.out.1 rfl
        go_wp2_with fail
        go_ret
        exact ⟨⟨k, ⟨by rw [HN.out]; omega, HNE.out, fun _ => by rw [HX.out, hxy]⟩, by rw [if_pos hlt]; rfl⟩, HB2.out⟩
    · go_wp2_with fail
      go_ret
      exact ⟨⟨k, ⟨by rw [HN.out]; omega, HNE.out, fun h => by rw [HN.out] at h; omega⟩, by rw [if_neg hlt]; rfl⟩, HB.out⟩

set_option maxRecDepth 100000 in
set_option maxHeartbeats 1000000 in
theorem indexf_s (a : Option Addr) (n c q : Nat) (l : List PSpec) (y : PSpec) (w : World) (hl : SpecsA w a l) (hn : l.length = n) (hb : n ≤ 140737488355328) (hll : ∀ x ∈ l, x.routes.length ≤ 140737488355328) (a2 : Option Addr) (n2 c2 : Nat) (hy : IntsA w a2 y.routes) (h2 : y.routes.length = n2) (hb2 : n2 ≤ 140737488355328) (hq0 : w.cell? ⟨q, 0, none⟩ = some (.int .i64 y.msg)) (hq1 : w.cell? ⟨q, 1, none⟩ = some (.slice a2 n2 c2)) (hq2 : w.cell? ⟨q, 2, none⟩ = some (.int .i64 y.block)) :
    Calls Tryd.prog 88 #[.slice a n c, .func (.func 89) #[] #[.pointer (some ⟨q, 0, none⟩)]] w fun e w' => (∃ k, IsFirst l y k ∧ e = .returned (.int .i64 (if k < n then (k : Int) else -1))) ∧ Below w.heap.size w w' := by
  have HL := Lib.hid hl
  have HN := Lib.hid hn
  have hql := mcell_lt hq0
  have HY := Lib.hid hy
  have H2 := Lib.hid h2
  have HQ0 := Lib.hid hq0
  have HQ1 := Lib.hid hq1
  have HQ2 := Lib.hid hq2
  have HLL := Lib.hid hll
  clear hl hn hy h2 hq0 hq1 hq2 hll
  go_enter Tryd.func88, Tryd.ntmps88
  go_wp2_with fail
  go_loopw [8] (fun ix wr => ∃ k : Nat, k ≤ n ∧ ix = .int .i64 k ∧ (∀ j, j < k → l[j]? ≠ some y) ∧ Below w.heap.size w wr) (fun ix _ => n - (intOf ix).toNat)
  case atStart => exact ⟨0, by omega, rfl, fun j hj => by omega, Below.refl _ _⟩
  case round =>
    obtain ⟨wo, hwo⟩ : ∃ wo : World, wr = wo := ⟨_, rfl⟩
    obtain ⟨k, hk, rfl, hne, hbel⟩ := hrel
    rw [hwo] at hbel ⊢
    clear hwo
    have HNE := Lib.hid hne
    have HB := Lib.hid hbel
    clear hne
    by_cases hlt : k < n
    · obtain ⟨x, hx⟩ : ∃ x, l[k]? = some x := ⟨_, List.getElem?_eq_getElem (by rw [HN.out]; exact hlt)⟩
      obtain ⟨p1, q1, ⟨g1, o1, e1, l1, k1⟩, hA1, _⟩ := (HL.out.below hbel) k x hx
      have hxl := HLL.out x (List.mem_of_getElem? hx)
      obtain ⟨msg, rs, blk⟩ := x
      obtain ⟨m, hm⟩ : ∃ m, rs.length = m := ⟨_, rfl⟩
      replace hxl : rs.length ≤ 140737488355328 := hxl
      have d1 : wo.cell? ⟨g1, o1 + k * 3, none⟩ = some (.int .i64 msg) := k1 0 _ rfl
      have d2 : wo.cell? ⟨g1, o1 + k * 3 + 1, none⟩ = some (.slice p1 m q1) := by rw [← hm]; exact k1 1 _ rfl
      have d3 : wo.cell? ⟨g1, o1 + k * 3 + 2, none⟩ = some (.int .i64 blk) := k1 2 _ rfl
      obtain ⟨x, hxe⟩ : ∃ x : PSpec, (⟨msg, rs, blk⟩ : PSpec) = x := ⟨_, rfl⟩
      rw [hxe] at hx
      subst e1
      have HX := Lib.hid hx
      obtain ⟨rv, hrv⟩ := dec_ex (x = y)
      have HRV := Lib.hid hrv
      have HC := Lib.hid (send_c1 p1 a2 q1 c2 m n2 q msg y.msg blk y.block rs y.routes wo hA1 (HY.out.below hbel) hm H2.out (by omega) hb2 ((hbel.cell (p := ⟨q, 0, none⟩) hql).trans HQ0.out) ((hbel.cell (p := ⟨q, 1, none⟩) hql).trans HQ1.out) ((hbel.cell (p := ⟨q, 2, none⟩) hql).trans HQ2.out) rv (by rw [hrv, ← hxe]))
      clear hx hbel hrv k1 hA1 hm hxl hxe
      go_wp2_with fail
      refine HC.out.mono ?_
      rintro e w2 ⟨rfl, hb2⟩
      have HB2 := Lib.hid (HB.out.trans (hb2.mono HB.out.size))
      clear hb2
      cases rv
      · have hxy : ¬ x = y := fun h => by have := HRV.out.2 h; cases this
        go_wp2_with fail
        go_roundw
        case rel => exact ⟨k + 1, by omega, by go_num, next_ne HNE.out HX.out hxy, HB2.out⟩
        case measure => simp [intOf]; omega
      · have hxy : x = y := HRV.out.1 rfl
        go_wp2_with fail
        go_ret
        exact ⟨⟨k, ⟨by rw [HN.out]; omega, HNE.out, fun _ => by rw [HX.out, hxy]⟩, by rw [if_pos hlt]; rfl⟩, HB2.out⟩
    · go_wp2_with fail
      go_ret
      exact ⟨⟨k, ⟨by rw [HN.out]; omega, HNE.out, fun h => by rw [HN.out] at h; omega⟩, by rw [if_neg hlt]; rfl⟩, HB.out⟩

set_option maxRecDepth 100000 in
set_option maxHeartbeats 1000000 in
/-- the law's own search -/
theorem made_any (a : Option Addr) (n c : Nat) (l : List (List UInt8)) (y : List UInt8) (w : World) (hl : MsgsA w a l) (hn : l.length = n) (hb : n ≤ 140737488355328) (hll : ∀ x ∈ l, x.length ≤ 140737488355328) (a2 : Option Addr) (n2 c2 : Nat) (hy : BsA w a2 y) (h2 : y.length = n2) (hb2 : n2 ≤ 140737488355328) :
    Calls Tryd.prog 39 #[.slice a n c, .slice a2 n2 c2] w fun e w' => (∃ k, IsFirst l y k ∧ e = .returned (.int .i64 (k : Int))) ∧ Below w.heap.size w w' := by
  have HL := Lib.hid hl
  have HN := Lib.hid hn
  have HY := Lib.hid hy
  have H2 := Lib.hid h2
  have HLL := Lib.hid hll
  clear hl hn hy h2 hll
  go_enter Tryd.func39, Tryd.ntmps39
  go_wp2_with fail
  go_loopw [5] (fun ix wr => ∃ k : Nat, k ≤ n ∧ ix = .int .i64 k ∧ (∀ j, j < k → l[j]? ≠ some y) ∧ Below w.heap.size w wr) (fun ix _ => n - (intOf ix).toNat)
  case atStart => exact ⟨0, by omega, rfl, fun j hj => by omega, Below.refl _ _⟩
  case round =>
    obtain ⟨wo, hwo⟩ : ∃ wo : World, wr = wo := ⟨_, rfl⟩
    obtain ⟨k, hk, rfl, hne, hbel⟩ := hrel
    rw [hwo] at hbel ⊢
    clear hwo
    have HNE := Lib.hid hne
    have HB := Lib.hid hbel
    clear hne
    by_cases hlt : k < n
    · obtain ⟨x, hx⟩ : ∃ x, l[k]? = some x := ⟨_, List.getElem?_eq_getElem (by rw [HN.out]; exact hlt)⟩
      obtain ⟨p1, q1, ⟨g1, o1, e1, l1, k1⟩, hA1, _⟩ := (HL.out.below hbel) k x hx
      have hxl := HLL.out x (List.mem_of_getElem? hx)
      obtain ⟨m, hm⟩ : ∃ m, x.length = m := ⟨_, rfl⟩
      have d1 : wo.cell? ⟨g1, o1 + k, none⟩ = some (.slice p1 m q1) := by rw [← hm]; simpa using k1 0 _ rfl
      subst e1
      have HX := Lib.hid hx
      obtain ⟨rv, hrv⟩ := dec_ex (x = y)
      have HRV := Lib.hid hrv
      have HC := Lib.hid (requal p1 a2 q1 c2 m n2 x y wo hA1 (HY.out.below hbel) hm H2.out (by omega) hb2 rv hrv)
      clear hx hbel hrv k1 hA1 hm hxl
      go_wp2_with fail
      refine HC.out.mono ?_
      rintro e w2 ⟨rfl, hb2⟩
      have HB2 := Lib.hid (HB.out.trans (hb2.mono HB.out.size))
      clear hb2
      cases rv
      · have hxy : ¬ x = y := fun h => by have := HRV.out.2 h; cases this
        go_wp2_with fail
        go_roundw
        case rel => exact ⟨k + 1, by omega, by go_num, next_ne HNE.out HX.out hxy, HB2.out⟩
        case measure => simp [intOf]; omega
      · have hxy : x = y := HRV.out.1 rfl
        go_wp2_with fail
        go_ret
        exact ⟨⟨k, ⟨by rw [HN.out]; omega, HNE.out, fun _ => by rw [HX.out, hxy]⟩, rfl⟩, HB2.out⟩
    · obtain rfl : k = n := by omega
      go_wp2_with fail
      go_ret
      exact ⟨⟨k, ⟨by rw [HN.out]; omega, HNE.out, fun h => by rw [HN.out] at h; omega⟩, rfl⟩, HB.out⟩
end Go.Proofs.YtaijdpckkobofaaDoor
