/- Programs in memory, to be read; a route, a send, an instruction, the limits: in form or not. -/
import Derived.Test.YtaijdpckkobofaaDoorChk2
import Derived.Test.YtaijdpckkobofaaDoorDec7
import Derived.Test.YtaijdpckkobofaaDoorAwake18
namespace Go.Proofs.YtaijdpckkobofaaDoor
open Go.RowKit
set_option linter.unusedVariables false

def RowAt (w : World) (a : Option Addr) (size : Nat) (k : Nat) (cs : List Value) : Prop := ∃ g o, a = some ⟨g, o, none⟩ ∧ g < w.heap.size ∧ ∀ (j : Nat) v, cs[j]? = some v → w.cell? ⟨g, o + k * size + j, none⟩ = some v
theorem RowAt.below {w w' : World} {a : Option Addr} {size k : Nat} {cs : List Value} (h : RowAt w a size k cs) (b : Below w.heap.size w w') : RowAt w' a size k cs := by
  obtain ⟨g, o, ha, hg, hc⟩ := h
  exact ⟨g, o, ha, Nat.lt_of_lt_of_le hg b.size, fun j v hv => (b.cell (p := ⟨g, _, none⟩) hg).trans (hc j v hv)⟩
def InsA (w : World) (a : Option Addr) (l : List PIns) : Prop := ∀ (k : Nat) (x : PIns), l[k]? = some x → x.op ≤ 255 ∧ RowAt w a 3 k x.cells
def StopsA (w : World) (a : Option Addr) (l : List PStop) : Prop := ∀ (k : Nat) (x : PStop), l[k]? = some x → RowAt w a 3 k x.cells
def IntsA (w : World) (a : Option Addr) (l : List Int) : Prop := ∀ (k : Nat) (x : Int), l[k]? = some x → RowAt w a 1 k [.int .i64 x]
def MsgsA (w : World) (a : Option Addr) (l : List (List UInt8)) : Prop := ∀ (k : Nat) (x : List UInt8), l[k]? = some x → ∃ b c, RowAt w a 1 k [.slice b x.length c] ∧ BsA w b x ∧ x.length ≤ c
def RoutesA (w : World) (a : Option Addr) (l : List (List PStop)) : Prop := ∀ (k : Nat) (x : List PStop), l[k]? = some x → ∃ b c, RowAt w a 1 k [.slice b x.length c] ∧ StopsA w b x ∧ x.length ≤ c
def SpecsA (w : World) (a : Option Addr) (l : List PSpec) : Prop := ∀ (k : Nat) (x : PSpec), l[k]? = some x → ∃ b c, RowAt w a 3 k [.int .i64 x.msg, .slice b x.routes.length c, .int .i64 x.block] ∧ IntsA w b x.routes ∧ x.routes.length ≤ c
theorem InsA.below {w w' : World} {a : Option Addr} {l : List PIns} (h : InsA w a l) (b : Below w.heap.size w w') : InsA w' a l := fun k x hx => ⟨(h k x hx).1, (h k x hx).2.below b⟩
theorem StopsA.below {w w' : World} {a : Option Addr} {l : List PStop} (h : StopsA w a l) (b : Below w.heap.size w w') : StopsA w' a l := fun k x hx => (h k x hx).below b
theorem IntsA.below {w w' : World} {a : Option Addr} {l : List Int} (h : IntsA w a l) (b : Below w.heap.size w w') : IntsA w' a l := fun k x hx => (h k x hx).below b
theorem MsgsA.below {w w' : World} {a : Option Addr} {l : List (List UInt8)} (h : MsgsA w a l) (b : Below w.heap.size w w') : MsgsA w' a l := fun k x hx => by
  obtain ⟨p, c, h1, h2, h3⟩ := h k x hx
  exact ⟨p, c, h1.below b, h2.below b, h3⟩
theorem RoutesA.below {w w' : World} {a : Option Addr} {l : List (List PStop)} (h : RoutesA w a l) (b : Below w.heap.size w w') : RoutesA w' a l := fun k x hx => by
  obtain ⟨p, c, h1, h2, h3⟩ := h k x hx
  exact ⟨p, c, h1.below b, h2.below b, h3⟩
theorem SpecsA.below {w w' : World} {a : Option Addr} {l : List PSpec} (h : SpecsA w a l) (b : Below w.heap.size w w') : SpecsA w' a l := fun k x hx => by
  obtain ⟨p, c, h1, h2, h3⟩ := h k x hx
  exact ⟨p, c, h1.below b, h2.below b, h3⟩
/-- a program's value -/
structure PrgA (w : World) (p : PProg) (ca : Option Addr) (cc : Nat) (ma : Option Addr) (mc : Nat) (ra : Option Addr) (rc : Nat) (sa : Option Addr) (sc : Nat) : Prop where
  code : InsA w ca p.code
  msgs : MsgsA w ma p.msgs
  routes : RoutesA w ra p.routes
  sends : SpecsA w sa p.sends
  lc : p.code.length ≤ 140737488355328
  lm : p.msgs.length ≤ 140737488355328
  lr : p.routes.length ≤ 140737488355328
  ls : p.sends.length ≤ 140737488355328
  rl : ∀ (k : Nat) x, p.routes[k]? = some x → x.length ≤ 140737488355328
  sl : ∀ (k : Nat) x, p.sends[k]? = some x → x.routes.length ≤ 140737488355328
def prgV (p : PProg) (ca : Option Addr) (cc : Nat) (ma : Option Addr) (mc : Nat) (ra : Option Addr) (rc : Nat) (sa : Option Addr) (sc : Nat) : Value :=
  .agg #[.slice ca p.code.length cc, .slice ma p.msgs.length mc, .slice ra p.routes.length rc, .slice sa p.sends.length sc, .int .i64 p.vars, .int .i64 p.stack, .int .i64 p.blocks, .int .i64 p.fuel]
theorem PrgA.below {w w' : World} {p : PProg} {ca ma ra sa : Option Addr} {cc mc rc sc : Nat} (h : PrgA w p ca cc ma mc ra rc sa sc) (b : Below w.heap.size w w') : PrgA w' p ca cc ma mc ra rc sa sc :=
  ⟨h.code.below b, h.msgs.below b, h.routes.below b, h.sends.below b, h.lc, h.lm, h.lr, h.ls, h.rl, h.sl⟩

theorem within_b (n lo hi : Int) (k : Bool) (h : inB n lo hi = k) (W : World) : Calls Tryd.prog 121 #[.int .i64 n, .int .i64 lo, .int .i64 hi] W fun e w' => e = .returned (.bool k) ∧ W = w' :=
  (within_any n lo hi W).mono fun e w' ⟨he, hw⟩ => ⟨by rw [he, ← h]; unfold inB; simp, hw⟩
theorem usesN_P (op : Nat) : usesN (op : Int) = (usesP op : Int) := by
  unfold usesN usesP
  have e : ∀ k : Nat, ((op : Int) = (k : Int)) ↔ op = k := fun k => by omega
  simp only [show (1 : Int) = ((1 : Nat) : Int) from rfl, show (5 : Int) = ((5 : Nat) : Int) from rfl, show (6 : Int) = ((6 : Nat) : Int) from rfl, show (7 : Int) = ((7 : Nat) : Int) from rfl, show (8 : Int) = ((8 : Nat) : Int) from rfl, show (9 : Int) = ((9 : Nat) : Int) from rfl, show (10 : Int) = ((10 : Nat) : Int) from rfl, show (11 : Int) = ((11 : Nat) : Int) from rfl, show (13 : Int) = ((13 : Nat) : Int) from rfl, show (15 : Int) = ((15 : Nat) : Int) from rfl, e]
  (repeat' split) <;> first | rfl | omega

theorem NodeAt.new (W : World) (arr : Array Value) (q : Nat) (s : ByteArray) (hq : W.heap.size = q) (hs : arr.size = 66) (h0 : arr[0]? = some (.string s)) (h1 : arr[1]? = some (.int .u64 1)) (ho : arr.all (·.oneCell') = true) : NodeAt q s (W.alloc (.cells arr 185)) := by
  subst hq
  refine ⟨by rw [World.size_alloc]; omega, arr.toList, by simpa using hs, ?_, by simpa using h0, by simpa using h1, fun v hv => ?_⟩
  · intro j v hv
    rw [Lib.cell_of_heap (heap_new _ _), Nat.zero_add]
    exact (Array.getElem?_toList ..).symm.trans hv
  · exact (Array.all_eq_true_iff_forall_mem.1 ho) v (by simpa using hv)

theorem all_take_succ {α : Type} {l : List α} {p : α → Bool} {k : Nat} {x : α} (h : l[k]? = some x) (ha : (l.take k).all p = true) (hx : p x = true) : (l.take (k + 1)).all p = true := by
  rw [List.take_add_one, h, List.all_append, ha]
  simp [hx]
theorem all_bad {α : Type} {l : List α} {p : α → Bool} {k : Nat} {x : α} (h : l[k]? = some x) (hx : p x = false) : l.all p = false := by
  rw [Bool.eq_false_iff]
  intro ha
  rw [List.all_eq_true] at ha
  have := ha x (List.mem_of_getElem? h)
  rw [hx] at this
  cases this
theorem routeOk_bad {r : List PStop} {k : Nat} {x : PStop} (h : r[k]? = some x) (hx : stopOk x = false) : routeOk r = false := by
  unfold routeOk; rw [all_bad h hx]; rfl

set_option maxRecDepth 100000 in
set_option maxHeartbeats 2000000 in
theorem route_any (a : Option Addr) (n c : Nat) (r : List PStop) (w : World) (h : StopsA w a r) (hn : r.length = n) (hb : n ≤ 140737488355328) :
    Calls Tryd.prog 95 #[.slice a n c] w fun e w' => e = .returned (.bool (routeOk r)) ∧ Below w.heap.size w w' := by
  have HA := Lib.hid h
  have HN := Lib.hid hn
  obtain ⟨rv, hrv⟩ : ∃ rv, routeOk r = rv := ⟨_, rfl⟩
  rw [hrv]
  have HRV := Lib.hid hrv
  clear h hn hrv
  go_enter Tryd.func95, Tryd.ntmps95
  go_wp2_with fail
  go_loopw [7] (fun ix wr => ∃ k : Nat, k ≤ n ∧ ix = .int .i64 k ∧ (r.take k).all stopOk = true ∧ Below w.heap.size w wr) (fun ix _ => n - (intOf ix).toNat)
  case atStart => exact ⟨0, by omega, rfl, rfl, Below.refl _ _⟩
  case round =>
    obtain ⟨wo, hwo⟩ : ∃ wo : World, wr = wo := ⟨_, rfl⟩
    obtain ⟨k, hk, rfl, hall, hbel⟩ := hrel
    rw [hwo] at hbel ⊢
    clear hwo
    have HALL := Lib.hid hall
    have HB := Lib.hid hbel
    clear hall
    by_cases hlt : k < n
    · obtain ⟨x, hx⟩ : ∃ x, r[k]? = some x := ⟨_, List.getElem?_eq_getElem (by rw [HN.out]; exact hlt)⟩
      obtain ⟨g, o, ha, hg, hc⟩ := HA.out k x hx
      obtain ⟨nm, dl, fl⟩ := x
      have hgo : g < wo.heap.size := by have := hbel.size; omega
      have c0 : wo.cell? ⟨g, o + k * 3, none⟩ = some (.string ⟨nm.toArray⟩) := (hbel.cell (p := ⟨g, _, none⟩) hg).trans (hc 0 _ rfl)
      have c1 : wo.cell? ⟨g, o + k * 3 + 1, none⟩ = some (.int .i64 dl) := (hbel.cell (p := ⟨g, _, none⟩) hg).trans (hc 1 _ rfl)
      have c2 : wo.cell? ⟨g, o + k * 3 + 2, none⟩ = some (.int .i64 fl) := (hbel.cell (p := ⟨g, _, none⟩) hg).trans (hc 2 _ rfl)
      subst ha
      have HX := Lib.hid hx
      obtain ⟨s, hs⟩ : ∃ s : ByteArray, (⟨nm.toArray⟩ : ByteArray) = s := ⟨_, rfl⟩
      have hsn : s.data.toList = nm := by rw [← hs]
      rw [hs] at c0
      obtain ⟨kn, hkn⟩ : ∃ kn, nameOk nm = kn := ⟨_, rfl⟩
      obtain ⟨k1, hk1⟩ : ∃ k1, inB dl 0 1000000 = k1 := ⟨_, rfl⟩
      obtain ⟨k2, hk2⟩ : ∃ k2, inB fl 0 255 = k2 := ⟨_, rfl⟩
      have HW1 := Lib.hid (within_b dl 0 1000000 k1 hk1)
      have HW2 := Lib.hid (within_b fl 0 255 k2 hk2)
      have HST : Hid (stopOk ⟨nm, dl, fl⟩ = (kn && k1 && k2)) := Lib.hid (by unfold stopOk; rw [hkn, hk1, hk2])
      obtain ⟨cv, hcv⟩ : ∃ cv : Int, (if kn then (0 : Int) else 3) = cv := ⟨_, rfl⟩
      have HDC : Hid (∀ g W, NodeAt g s W → Calls Tryd.prog 122 #[.slice (some ⟨g, 0, none⟩) 1 1] W fun e w' => e = .returned (.int .i64 cv) ∧ Below W.heap.size W w') := Lib.hid (fun g W hnd => by
        have := dirCheck_one g s W hnd
        rw [hsn, hkn, hcv] at this
        exact this)
      have HCV := Lib.hid hcv
      clear hx hs hsn hkn hk1 hk2 hcv hc hbel
      obtain ⟨w1, q, hw1, hq⟩ : ∃ w1 q, wo.alloc (.cells #[.string s, .int .i64 dl, .int .i64 fl] 64) = w1 ∧ wo.heap.size = q := ⟨_, _, rfl, rfl⟩
      have hb1 : Below wo.heap.size wo w1 := by rw [← hw1]; exact (Below.refl _ _).alloc (Nat.le_refl _) _
      have hh1 : w1.heap[q]? = some (.cells #[.string s, .int .i64 dl, .int .i64 fl] 64 (0, 0)) := by rw [← hw1, ← hq]; exact heap_new _ _
      have hql : q < w1.heap.size := (Array.getElem?_eq_some_iff.1 hh1).1
      have d0 : w1.cell? ⟨q, 0, none⟩ = some (.string s) := (Lib.cell_of_heap hh1 _).trans rfl
      have HB1 := Lib.hid (HB.out.trans (hb1.mono HB.out.size))
      have HH1 := Lib.hid hh1
      clear hb1 hh1
      go_upto_region 4 with fail
      clear hw1 hq c0 c1 c2
      go_wp2_with fail
      refine (HDC.out _ _ (NodeAt.new _ _ _ _ (by simp) (by kernel_rfl) (by kernel_rfl) (by kernel_rfl) (by kernel_rfl))).mono ?_
      rintro e w2 ⟨rfl, hb2⟩
      have hs12 : w1.heap.size ≤ w2.heap.size := by have := hb2.size; rw [World.size_alloc] at this; omega
      have hb12 : Below w1.heap.size w1 w2 := ((Below.refl _ _).alloc (Nat.le_refl _) _).trans (hb2.mono (by rw [World.size_alloc]; omega))
      have d1 : w2.cell? ⟨q, 1, none⟩ = some (.int .i64 dl) := (hb12.cell (p := ⟨q, 1, none⟩) hql).trans ((Lib.cell_of_heap HH1.out _).trans rfl)
      have d2 : w2.cell? ⟨q, 2, none⟩ = some (.int .i64 fl) := (hb12.cell (p := ⟨q, 2, none⟩) hql).trans ((Lib.cell_of_heap HH1.out _).trans rfl)
      have HB2 := Lib.hid (HB1.out.trans (hb12.mono HB1.out.size))
      clear hb2 hb12 hs12 d0
      cases kn
      · obtain rfl : (3 : Int) = cv := HCV.out
        have HR : Hid (rv = false) := Lib.hid (by rw [← HRV.out]; exact routeOk_bad HX.out (by rw [HST.out]; rfl))
        go_wp2_with fail
        go_ret
        exact ⟨ret_bool (by rw [HR.out]), HB2.out⟩
      · obtain rfl : (0 : Int) = cv := HCV.out
        cases k1
        · have HR : Hid (rv = false) := Lib.hid (by rw [← HRV.out]; exact routeOk_bad HX.out (by rw [HST.out]; rfl))
          go_wp2_with (first | (go_at_call 121; refine (HW1.out _).mono ?_; rintro e w' ⟨rfl, rfl⟩))
          go_ret
          exact ⟨ret_bool (by rw [HR.out]), HB2.out⟩
        · cases k2
          · have HR : Hid (rv = false) := Lib.hid (by rw [← HRV.out]; exact routeOk_bad HX.out (by rw [HST.out]; rfl))
            go_wp2_with fail
            refine (HW1.out _).mono ?_
            rintro e w' ⟨rfl, rfl⟩
            go_wp2_with fail
            refine (HW2.out _).mono ?_
            rintro e w' ⟨rfl, rfl⟩
            go_wp2_with fail
            go_ret
            exact ⟨ret_bool (by rw [HR.out]), HB2.out⟩
          · go_wp2_with fail
            refine (HW1.out _).mono ?_
            rintro e w' ⟨rfl, rfl⟩
            go_wp2_with fail
            refine (HW2.out _).mono ?_
            rintro e w' ⟨rfl, rfl⟩
            go_wp2_with fail
            go_roundw
            case rel => exact ⟨k + 1, by omega, by go_num, all_take_succ HX.out HALL.out (by rw [HST.out]; rfl), HB2.out⟩
            case measure => simp [intOf]; omega
    · obtain rfl : k = n := by omega
      obtain ⟨k3, hk3⟩ : ∃ k3, inB (k : Int) 1 5 = k3 := ⟨_, rfl⟩
      have HW3 := Lib.hid (within_b (k : Int) 1 5 k3 hk3)
      have HR : Hid (rv = k3) := Lib.hid (by
        rw [← HRV.out, ← hk3]
        unfold routeOk
        have ha : r.all stopOk = true := by have := HALL.out; rwa [List.take_of_length_le (by rw [HN.out]; omega)] at this
        rw [ha, HN.out]
        unfold inB
        rw [Bool.true_and, Bool.eq_iff_iff]
        simp only [Bool.and_eq_true, decide_eq_true_eq]
        omega)
      clear hk3 hbel
      go_wp2_with fail
      refine (HW3.out _).mono ?_
      rintro e w' ⟨rfl, rfl⟩
      go_wp2_with fail
      go_ret
      exact ⟨ret_bool (by rw [HR.out]), HB.out⟩
end Go.Proofs.YtaijdpckkobofaaDoor
