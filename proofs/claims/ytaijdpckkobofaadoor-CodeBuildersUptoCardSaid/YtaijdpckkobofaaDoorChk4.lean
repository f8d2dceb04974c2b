/- A send, an instruction, the limits: in form or not. -/
import Derived.Test.YtaijdpckkobofaaDoorChk3
namespace Go.Proofs.YtaijdpckkobofaaDoor
open Go.RowKit
set_option linter.unusedVariables false

set_option maxRecDepth 100000 in
set_option maxHeartbeats 2000000 in
theorem spec_any (msg block : Int) (a : Option Addr) (n c : Nat) (rs : List Int) (w : World) (h : IntsA w a rs) (hn : rs.length = n) (hb : n ≤ 140737488355328) :
    Calls Tryd.prog 96 #[.agg #[.int .i64 msg, .slice a n c, .int .i64 block]] w fun e w' => e = .returned (.bool (specOk ⟨msg, rs, block⟩)) ∧ Below w.heap.size w w' := by
  obtain ⟨rv, hrv⟩ : ∃ rv, specOk ⟨msg, rs, block⟩ = rv := ⟨_, rfl⟩
  rw [hrv]
  obtain ⟨w1, q, hw1, hq⟩ : ∃ w1 q, w.alloc (.cells #[.int .i64 msg, .slice a n c, .int .i64 block] 39) = w1 ∧ w.heap.size = q := ⟨_, _, rfl, rfl⟩
  have hb1 : Below w.heap.size w w1 := by rw [← hw1]; exact (Below.refl _ _).alloc (Nat.le_refl _) _
  have hh1 : w1.heap[q]? = some (.cells #[.int .i64 msg, .slice a n c, .int .i64 block] 39 (0, 0)) := by rw [← hw1, ← hq]; exact heap_new _ _
  have d0 : w1.cell? ⟨q, 0, none⟩ = some (.int .i64 msg) := (Lib.cell_of_heap hh1 _).trans rfl
  have d1 : w1.cell? ⟨q, 1, none⟩ = some (.slice a n c) := (Lib.cell_of_heap hh1 _).trans rfl
  have d2 : w1.cell? ⟨q, 2, none⟩ = some (.int .i64 block) := (Lib.cell_of_heap hh1 _).trans rfl
  have HA := Lib.hid (h.below hb1)
  have HB := Lib.hid hb1
  have HN := Lib.hid hn
  have HRV := Lib.hid hrv
  clear h hn hrv hh1 hb1
  go_enter Tryd.func96, Tryd.ntmps96
  go_upto_region 1 with fail
  clear hw1 hq
  go_wp2_with fail
  go_loop [8] (fun ix => ∃ k : Nat, k ≤ n ∧ ix = .int .i64 k ∧ (rs.take k).all (fun k => inB k 0 63) = true) (fun ix => n - (intOf ix).toNat)
  case atStart => exact ⟨0, by omega, rfl, rfl⟩
  case round =>
    obtain ⟨k, hk, rfl, hall⟩ := hrel
    have HALL := Lib.hid hall
    clear hall
    by_cases hlt : k < n
    · obtain ⟨x, hx⟩ : ∃ x, rs[k]? = some x := ⟨_, List.getElem?_eq_getElem (by rw [HN.out]; exact hlt)⟩
      obtain ⟨g, o, ha, hg, hc⟩ := HA.out k x hx
      have c0 : w1.cell? ⟨g, o + k, none⟩ = some (.int .i64 x) := by simpa using hc 0 _ rfl
      subst ha
      have HX := Lib.hid hx
      obtain ⟨k1, hk1⟩ : ∃ k1, inB x 0 63 = k1 := ⟨_, rfl⟩
      have HW1 := Lib.hid (within_b x 0 63 k1 hk1)
      have HK1 := Lib.hid hk1
      clear hx hc hk1
      cases k1
      · have HR : Hid (rv = false) := Lib.hid (by rw [← HRV.out]; unfold specOk; rw [all_bad HX.out HK1.out]; rfl)
        go_wp2_with fail
        refine (HW1.out _).mono ?_
        rintro e w' ⟨rfl, rfl⟩
        go_wp2_with fail
        go_ret
        exact ⟨ret_bool (by rw [HR.out]), HB.out⟩
      · go_wp2_with fail
        refine (HW1.out _).mono ?_
        rintro e w' ⟨rfl, rfl⟩
        go_wp2_with fail
        go_round
        case rel => exact ⟨k + 1, by omega, by go_num, all_take_succ HX.out HALL.out HK1.out⟩
        case measure => simp [intOf]; omega
    · obtain rfl : k = n := by omega
      obtain ⟨k1, hk1⟩ : ∃ k1, inB (k : Int) 1 8 = k1 := ⟨_, rfl⟩
      obtain ⟨k2, hk2⟩ : ∃ k2, inB msg 0 63 = k2 := ⟨_, rfl⟩
      obtain ⟨k3, hk3⟩ : ∃ k3, inB block (-1) 15 = k3 := ⟨_, rfl⟩
      have HW1 := Lib.hid (within_b (k : Int) 1 8 k1 hk1)
      have HW2 := Lib.hid (within_b msg 0 63 k2 hk2)
      have HW3 := Lib.hid (within_b block (-1) 15 k3 hk3)
      have HR : Hid (rv = (k1 && k2 && k3)) := Lib.hid (by
        rw [← HRV.out, ← hk1, ← hk2, ← hk3]
        unfold specOk
        have ha : rs.all (fun k => inB k 0 63) = true := by have := HALL.out; rwa [List.take_of_length_le (by rw [HN.out]; omega)] at this
        rw [ha, HN.out, Bool.true_and]
        have e : inB (k : Int) 1 8 = (decide (1 ≤ k) && decide (k ≤ 8)) := by
          unfold inB
          rw [Bool.eq_iff_iff]
          simp only [Bool.and_eq_true, decide_eq_true_eq]
          omega
        rw [e])
      clear hk1 hk2 hk3
      cases k1
      · go_wp2_with fail
        refine (HW1.out _).mono ?_
        rintro e w' ⟨rfl, rfl⟩
        go_wp2_with fail
        go_ret
        exact ⟨ret_bool (by rw [HR.out]; rfl), HB.out⟩
      · cases k2
        · go_wp2_with fail
          refine (HW1.out _).mono ?_
          rintro e w' ⟨rfl, rfl⟩
          go_wp2_with fail
          refine (HW2.out _).mono ?_
          rintro e w' ⟨rfl, rfl⟩
          go_wp2_with fail
          go_ret
          exact ⟨ret_bool (by rw [HR.out]; rfl), HB.out⟩
        · go_wp2_with fail
          refine (HW1.out _).mono ?_
          rintro e w' ⟨rfl, rfl⟩
          go_wp2_with fail
          refine (HW2.out _).mono ?_
          rintro e w' ⟨rfl, rfl⟩
          go_wp2_with fail
          refine (HW3.out _).mono ?_
          rintro e w' ⟨rfl, rfl⟩
          go_wp2_with fail
          go_ret
          exact ⟨ret_bool (by rw [HR.out]; cases k3 <;> rfl), HB.out⟩

set_option maxRecDepth 100000 in
set_option maxHeartbeats 2000000 in
theorem instr_any (op : Nat) (a b : Int) (w : World) (h : op ≤ 255) :
    Calls Tryd.prog 94 #[.agg #[.int .u8 op, .int .i64 a, .int .i64 b]] w fun e w' => e = .returned (.bool (insOk ⟨op, a, b⟩)) ∧ Below w.heap.size w w' := by
  obtain ⟨rv, hrv⟩ : ∃ rv, insOk ⟨op, a, b⟩ = rv := ⟨_, rfl⟩
  rw [hrv]
  obtain ⟨w1, q, hw1, hq⟩ : ∃ w1 q, w.alloc (.cells #[.int .u8 op, .int .i64 a, .int .i64 b] 33) = w1 ∧ w.heap.size = q := ⟨_, _, rfl, rfl⟩
  have hb1 : Below w.heap.size w w1 := by rw [← hw1]; exact (Below.refl _ _).alloc (Nat.le_refl _) _
  have hh1 : w1.heap[q]? = some (.cells #[.int .u8 op, .int .i64 a, .int .i64 b] 33 (0, 0)) := by rw [← hw1, ← hq]; exact heap_new _ _
  have d0 : w1.cell? ⟨q, 0, none⟩ = some (.int .u8 op) := (Lib.cell_of_heap hh1 _).trans rfl
  have d1 : w1.cell? ⟨q, 1, none⟩ = some (.int .i64 a) := (Lib.cell_of_heap hh1 _).trans rfl
  have d2 : w1.cell? ⟨q, 2, none⟩ = some (.int .i64 b) := (Lib.cell_of_heap hh1 _).trans rfl
  have HB := Lib.hid hb1
  obtain ⟨u, hu⟩ : ∃ u, usesP op = u := ⟨_, rfl⟩
  have hu2 : u ≤ 2 := by rw [← hu]; unfold usesP; (repeat' split) <;> omega
  have HU : Hid (∀ W, Calls Tryd.prog 63 #[.int .u8 op] W fun e w' => e = .returned (.int .i64 u) ∧ W = w') := Lib.hid (fun W => by
    have := uses_any (op : Int) W (by omega) (by omega)
    rw [usesN_P, hu] at this
    exact this)
  have HRV : Hid (rv = if u = 0 then decide (a = 0) && decide (b = 0) else if u = 1 then (if op = 1 then inB a (-2147483648) 2147483647 else inB a 0 65535) && decide (b = 0) else inB a 0 65535 && inB b 0 65535) := Lib.hid (by
    rw [← hrv]; unfold insOk; simp only [hu])
  have HOP : Hid (op = 1 → u = 1) := Lib.hid (fun h1 => by rw [← hu, h1]; rfl)
  clear hrv hh1 hb1 hu
  go_enter Tryd.func94, Tryd.ntmps94
  go_upto_region 1 with fail
  clear hw1 hq
  by_cases hop : op = 1
  · have hu1 := HOP.out hop
    obtain ⟨k1, hk1⟩ : ∃ k1, inB a (-2147483648) 2147483647 = k1 := ⟨_, rfl⟩
    have HW1 := Lib.hid (within_b a (-2147483648) 2147483647 k1 hk1)
    have HR : Hid (rv = (k1 && decide (b = 0))) := Lib.hid (by rw [HRV.out, hu1, hop, ← hk1]; simp)
    subst hop hu1
    clear hk1
    by_cases hb0 : b = 0
    · subst hb0
      cases k1
      all_goals
        go_wp2_with fail
        refine (HU.out _).mono ?_
        rintro e w' ⟨rfl, rfl⟩
        go_wp2_with fail
        refine (HW1.out _).mono ?_
        rintro e w' ⟨rfl, rfl⟩
        go_wp2_with fail
        go_ret
        exact ⟨ret_bool (by rw [HR.out]; simp), HB.out⟩
    · have e0 : ((b : Int) == 0) = false := by rw [beq_eq_false_iff_ne]; exact hb0
      have HB0 := Lib.hid hb0
      clear hb0
      cases k1
      all_goals
        go_wp2_with fail
        refine (HU.out _).mono ?_
        rintro e w' ⟨rfl, rfl⟩
        go_wp2_with fail
        refine (HW1.out _).mono ?_
        rintro e w' ⟨rfl, rfl⟩
        go_wp2_with fail
        go_ret
        exact ⟨ret_bool (by rw [HR.out]; simp [HB0.out]), HB.out⟩
  · have eop : ((op : Int) == 1) = false := by rw [beq_eq_false_iff_ne]; omega
    have HR0 : Hid (rv = if u = 0 then decide (a = 0) && decide (b = 0) else if u = 1 then inB a 0 65535 && decide (b = 0) else inB a 0 65535 && inB b 0 65535) := Lib.hid (by rw [HRV.out, if_neg hop])
    clear hop HOP
    obtain ⟨k1, hk1⟩ : ∃ k1, inB a 0 65535 = k1 := ⟨_, rfl⟩
    obtain ⟨k2, hk2⟩ : ∃ k2, inB b 0 65535 = k2 := ⟨_, rfl⟩
    have HW1 := Lib.hid (within_b a 0 65535 k1 hk1)
    have HW2 := Lib.hid (within_b b 0 65535 k2 hk2)
    have HR : Hid (rv = if u = 0 then decide (a = 0) && decide (b = 0) else if u = 1 then k1 && decide (b = 0) else k1 && k2) := Lib.hid (by rw [HR0.out, hk1, hk2])
    clear hk1 hk2 HR0
    obtain ⟨b0, hb0⟩ : ∃ b0, decide (b = 0) = b0 := ⟨_, rfl⟩
    have eb : ((b : Int) == 0) = b0 := by rw [← hb0]; rw [Bool.eq_iff_iff]; simp
    have HB0 := Lib.hid hb0
    clear hb0
    match u, hu2, HU, HR with
    | 0, _, HU, HR =>
      obtain ⟨a0, ha0⟩ : ∃ a0, decide (a = 0) = a0 := ⟨_, rfl⟩
      have ea : ((a : Int) == 0) = a0 := by rw [← ha0]; rw [Bool.eq_iff_iff]; simp
      have HA0 := Lib.hid ha0
      clear ha0
      cases a0
      all_goals
        cases b0
        all_goals
          go_wp2_with fail
          refine (HU.out _).mono ?_
          rintro e w' ⟨rfl, rfl⟩
          go_wp2_with fail
          go_ret
          exact ⟨ret_bool (by rw [HR.out]; simp only [HA0.out, HB0.out]; rfl), HB.out⟩
    | 1, _, HU, HR =>
      cases k1
      all_goals
        cases b0
        all_goals
          go_wp2_with fail
          refine (HU.out _).mono ?_
          rintro e w' ⟨rfl, rfl⟩
          go_wp2_with fail
          refine (HW1.out _).mono ?_
          rintro e w' ⟨rfl, rfl⟩
          go_wp2_with fail
          go_ret
          exact ⟨ret_bool (by rw [HR.out]; simp only [HB0.out]; rfl), HB.out⟩
    | 2, _, HU, HR =>
      cases k1
      · go_wp2_with fail
        refine (HU.out _).mono ?_
        rintro e w' ⟨rfl, rfl⟩
        go_wp2_with fail
        refine (HW1.out _).mono ?_
        rintro e w' ⟨rfl, rfl⟩
        go_wp2_with fail
        go_ret
        exact ⟨ret_bool (by rw [HR.out]; rfl), HB.out⟩
      · go_wp2_with fail
        refine (HU.out _).mono ?_
        rintro e w' ⟨rfl, rfl⟩
        go_wp2_with fail
        refine (HW1.out _).mono ?_
        rintro e w' ⟨rfl, rfl⟩
        go_wp2_with fail
        refine (HW2.out _).mono ?_
        rintro e w' ⟨rfl, rfl⟩
        go_wp2_with fail
        go_ret
        exact ⟨ret_bool (by rw [HR.out]; cases k2 <;> rfl), HB.out⟩

set_option maxRecDepth 100000 in
set_option maxHeartbeats 2000000 in
theorem limits_any (p : PProg) (ca ma ra sa : Option Addr) (cc mc rc sc : Nat) (w : World) (h : PrgA w p ca cc ma mc ra rc sa sc) :
    Calls Tryd.prog 97 #[prgV p ca cc ma mc ra rc sa sc] w fun e w' => e = .returned (.bool (limOk p)) ∧ Below w.heap.size w w' := by
  obtain ⟨rv, hrv⟩ : ∃ rv, limOk p = rv := ⟨_, rfl⟩
  rw [hrv]
  have hlc := h.lc
  have hlm := h.lm
  have hlr := h.lr
  have hls := h.ls
  have HRV0 := Lib.hid hrv
  clear h hrv
  unfold prgV
  unfold limOk at HRV0
  generalize p.code.length = n0 at *
  generalize p.msgs.length = n1 at *
  generalize p.routes.length = n2 at *
  generalize p.sends.length = n3 at *
  generalize p.vars = v1 at *
  generalize p.stack = v2 at *
  generalize p.blocks = v3 at *
  generalize p.fuel = v4 at *
  obtain ⟨k1, hk1⟩ : ∃ k1, inB v1 0 64 = k1 := ⟨_, rfl⟩
  obtain ⟨k2, hk2⟩ : ∃ k2, inB v2 0 64 = k2 := ⟨_, rfl⟩
  obtain ⟨k3, hk3⟩ : ∃ k3, inB v3 0 16 = k3 := ⟨_, rfl⟩
  obtain ⟨k4, hk4⟩ : ∃ k4, inB v4 0 1000000 = k4 := ⟨_, rfl⟩
  have HW1 := Lib.hid (within_b v1 0 64 k1 hk1)
  have HW2 := Lib.hid (within_b v2 0 64 k2 hk2)
  have HW3 := Lib.hid (within_b v3 0 16 k3 hk3)
  have HW4 := Lib.hid (within_b v4 0 1000000 k4 hk4)
  rw [hk1, hk2, hk3, hk4] at HRV0
  clear hk1 hk2 hk3 hk4
  by_cases h0 : n0 ≤ 4000
  · by_cases hm : n1 ≤ 64 ∧ n2 ≤ 64 ∧ n3 ≤ 64
    · obtain ⟨m1, m2, m3⟩ := hm
      have HR : Hid (rv = (k1 && k2 && k3 && k4)) := Lib.hid (by rw [← HRV0.out]; simp [h0, m1, m2, m3])
      go_enter Tryd.func97, Tryd.ntmps97
      cases k1
      · go_wp2_with fail
        all_goals first
          | (exfalso; omega)
          | (refine (HW1.out _).mono ?_
             rintro e w' ⟨rfl, rfl⟩
             go_wp2_with fail
             go_ret
             exact ⟨ret_bool (by rw [HR.out]; rfl), (Below.refl _ _).alloc (Nat.le_refl _) _⟩)
      · cases k2
        · go_wp2_with fail
          all_goals first
            | (exfalso; omega)
            | (refine (HW1.out _).mono ?_
               rintro e w' ⟨rfl, rfl⟩
               go_wp2_with fail
               refine (HW2.out _).mono ?_
               rintro e w' ⟨rfl, rfl⟩
               go_wp2_with fail
               go_ret
               exact ⟨ret_bool (by rw [HR.out]; rfl), (Below.refl _ _).alloc (Nat.le_refl _) _⟩)
        · cases k3
          · go_wp2_with fail
            all_goals first
              | (exfalso; omega)
              | (refine (HW1.out _).mono ?_
                 rintro e w' ⟨rfl, rfl⟩
                 go_wp2_with fail
                 refine (HW2.out _).mono ?_
                 rintro e w' ⟨rfl, rfl⟩
                 go_wp2_with fail
                 refine (HW3.out _).mono ?_
                 rintro e w' ⟨rfl, rfl⟩
                 go_wp2_with fail
                 go_ret
                 exact ⟨ret_bool (by rw [HR.out]; rfl), (Below.refl _ _).alloc (Nat.le_refl _) _⟩)
          · go_wp2_with fail
            all_goals first
              | (exfalso; omega)
              | (refine (HW1.out _).mono ?_
                 rintro e w' ⟨rfl, rfl⟩
                 go_wp2_with fail
                 refine (HW2.out _).mono ?_
                 rintro e w' ⟨rfl, rfl⟩
                 go_wp2_with fail
                 refine (HW3.out _).mono ?_
                 rintro e w' ⟨rfl, rfl⟩
                 go_wp2_with fail
                 refine (HW4.out _).mono ?_
                 rintro e w' ⟨rfl, rfl⟩
                 go_wp2_with fail
                 go_ret
                 exact ⟨ret_bool (by rw [HR.out]; cases k4 <;> rfl), (Below.refl _ _).alloc (Nat.le_refl _) _⟩)
    · have HR : Hid (rv = false) := Lib.hid (by
        rw [← HRV0.out, Bool.eq_false_iff]
        intro hh
        simp only [Bool.and_eq_true, decide_eq_true_eq] at hh
        omega)
      go_enter Tryd.func97, Tryd.ntmps97
      go_wp2_with fail
      all_goals first
        | (exfalso; omega)
        | (go_ret
           exact ⟨ret_bool (by rw [HR.out]), (Below.refl _ _).alloc (Nat.le_refl _) _⟩)
  · go_enter Tryd.func97, Tryd.ntmps97
    go_wp2_with fail
    go_ret
    exact ⟨ret_bool (by rw [← HRV0.out]; simp [h0]), (Below.refl _ _).alloc (Nat.le_refl _) _⟩
end Go.Proofs.YtaijdpckkobofaaDoor
