/- The reference's Decode. (wip/gen_rdec6.py) -/
import Derived.Test.YtaijdpckkobofaaDoorRChk
import Derived.Test.YtaijdpckkobofaaDoorRDec5
import Derived.Test.YtaijdpckkobofaaDoorRConv
namespace Go.Proofs.YtaijdpckkobofaaDoor
open Go.RowKit
set_option linter.unusedVariables false

theorem numR_at {bs : List UInt8} {p k q : Nat} (h : p + k ≤ bs.length) (hq : p + k = q) : numR k (bs.drop p) = some (beOf ((bs.drop p).take k), bs.drop q) := by
  subst hq
  unfold numR; rw [if_pos (by rw [List.length_drop]; omega), List.drop_drop]
theorem progR_len {l : List UInt8} {x : PProg × List UInt8} (h : progR l = some x) : 18 ≤ l.length := by
  unfold progR at h
  simp only [Option.bind_eq_some_iff, Prod.exists] at h
  obtain ⟨a, la, ha, b, lb, hb, c, lc, hc, d, ld, hd, e, le, he, f, lf, hf, g, lg, hg, i, li, hi, hB⟩ := h
  obtain ⟨ka, rfl, _⟩ := numR_spec ha
  obtain ⟨kb, rfl, _⟩ := numR_spec hb
  obtain ⟨kc, rfl, _⟩ := numR_spec hc
  obtain ⟨kd, rfl, _⟩ := numR_spec hd
  obtain ⟨ke, rfl, _⟩ := numR_spec he
  obtain ⟨kf, rfl, _⟩ := numR_spec hf
  obtain ⟨kg, rfl, _⟩ := numR_spec hg
  obtain ⟨ki, rfl, _⟩ := numR_spec hi
  simp only [List.length_drop] at *
  omega
theorem progR_at {bs : List UInt8} (h : 22 ≤ bs.length) : progR (bs.drop 4) = bodyR (beOf ((bs.drop 4).take 2)) (beOf ((bs.drop 6).take 2)) (beOf ((bs.drop 8).take 2)) (beOf ((bs.drop 10).take 2)) (beOf ((bs.drop 12).take 2)) (beOf ((bs.drop 14).take 2)) (beOf ((bs.drop 16).take 2)) (beOf ((bs.drop 18).take 4)) (bs.drop 22) := by
  unfold progR
  rw [numR_at (p := 4) (k := 2) (q := 6) (by omega) rfl]
  simp only [Option.bind_some]
  rw [numR_at (p := 6) (k := 2) (q := 8) (by omega) rfl]
  simp only [Option.bind_some]
  rw [numR_at (p := 8) (k := 2) (q := 10) (by omega) rfl]
  simp only [Option.bind_some]
  rw [numR_at (p := 10) (k := 2) (q := 12) (by omega) rfl]
  simp only [Option.bind_some]
  rw [numR_at (p := 12) (k := 2) (q := 14) (by omega) rfl]
  simp only [Option.bind_some]
  rw [numR_at (p := 14) (k := 2) (q := 16) (by omega) rfl]
  simp only [Option.bind_some]
  rw [numR_at (p := 16) (k := 2) (q := 18) (by omega) rfl]
  simp only [Option.bind_some]
  rw [numR_at (p := 18) (k := 4) (q := 22) (by omega) rfl]
  simp only [Option.bind_some]
theorem decode_lt4 {bs : List UInt8} (h : bs.length < 4) : decodeP bs = .inl 2 := by
  unfold decodeP; rw [if_pos h]
theorem decode_lt22 {bs : List UInt8} (h : 4 ≤ bs.length) (h2 : bs.length < 22) (hm : bs.take 4 = magicL) : decodeP bs = .inl 2 := by
  refine decode_none h hm ?_
  cases hp : progR (bs.drop 4) with
  | none => rfl
  | some x =>
    have := progR_len hp
    rw [List.length_drop] at this
    omega

theorem rget_at (a : Option Addr) (n c k p x : Nat) (pI kI : Int) (bs : List UInt8) (w : World) (hA : BsA w a bs) (hn : bs.length = n) (hk : k = 1 ∨ k = 2 ∨ k = 4) (hp : p + k ≤ n) (hpI : (p : Int) = pI) (hkI : (k : Int) = kI) (hb : n ≤ 140737488355328) (hx : beOf ((bs.drop p).take k) = x) :
    Calls Tryd.prog 54 #[.slice a n c, .int .i64 pI, .int .i64 kI] w fun e w' => (∃ (atI : Int) (ok : Bool), e = .returned (.tuple #[.int .i64 x, .int .i64 atI, .bool ok])) ∧ w = w' := by
  refine (rget a n c k p pI kI bs w hA hn hk (by omega) hpI hkI hb).mono ?_
  rintro e w' ⟨⟨y, q, atI, ok, rfl, _, _, hs⟩, rfl⟩
  rw [numR_at (by rw [hn]; exact hp) rfl] at hs
  rcases hs with ⟨_, _, h⟩ | ⟨_, h | h⟩
  · simp only [Option.some.injEq, Prod.mk.injEq] at h
    obtain ⟨rfl, _⟩ := h
    subst hx
    exact ⟨⟨_, _, rfl⟩, rfl⟩
  · cases h
  · cases h
set_option maxRecDepth 100000 in
set_option maxHeartbeats 4000000 in
theorem rdecode (a : Option Addr) (n c : Nat) (bs : List UInt8) (w : World) (hA : BsA w a bs) (hn : bs.length = n) (hcl : n ≤ c) (hnil : a = none → c = 0) (hb : n ≤ 140737488355328) :
    Calls Tryd.prog 16 #[.slice a n c] w (DecOut bs w) := by
  obtain ⟨w1, R, hw1, hR⟩ : ∃ w1 R, w.alloc (.cells #[.slice none 0 0, .slice none 0 0, .slice none 0 0, .slice none 0 0, .int .i64 0, .int .i64 0, .int .i64 0, .int .i64 0] 28) = w1 ∧ w.heap.size = R := ⟨_, _, rfl, rfl⟩
  have hb1 : Below w.heap.size w w1 := by rw [← hw1]; exact (Below.refl _ _).alloc (Nat.le_refl _) _
  have hz1 : ZeroAt R w1 := by unfold ZeroAt; rw [← hw1, ← hR]; exact heap_new _ _
  have HB1 := Lib.hid hb1
  have HZ1 := Lib.hid hz1
  have HN := Lib.hid hn
  have hRw : w.heap.size ≤ R := by omega
  have hR1 : R < w1.heap.size := (Array.getElem?_eq_some_iff.1 hz1).1
  have HAB : Hid (∀ W, Below w.heap.size w W → BsA W a bs) := Lib.hid (fun W hW => hA.below hW)
  have HNIL := Lib.hid hnil
  have Hw1 := Lib.hid hw1
  have HRE := Lib.hid hR
  clear hA hw1 hR hb1 hz1 hnil hn
  go_enter Tryd.func16, Tryd.ntmps16
  go_upto_region 1 with fail
  rw [Hw1.out, HRE.out]
  clear Hw1 HRE
  by_cases h4 : n < 4
  · have HD : Hid (decodeP bs = .inl 2) := Lib.hid (decode_lt4 (by rw [HN.out]; exact h4))
    have z0 : w1.cell? ⟨R, 0, none⟩ = some (.slice none 0 0) := (Lib.cell_of_heap HZ1.out _).trans rfl
    have z1 : w1.cell? ⟨R, 1, none⟩ = some (.slice none 0 0) := (Lib.cell_of_heap HZ1.out _).trans rfl
    have z2 : w1.cell? ⟨R, 2, none⟩ = some (.slice none 0 0) := (Lib.cell_of_heap HZ1.out _).trans rfl
    have z3 : w1.cell? ⟨R, 3, none⟩ = some (.slice none 0 0) := (Lib.cell_of_heap HZ1.out _).trans rfl
    have z4 : w1.cell? ⟨R, 4, none⟩ = some (.int .i64 0) := (Lib.cell_of_heap HZ1.out _).trans rfl
    have z5 : w1.cell? ⟨R, 5, none⟩ = some (.int .i64 0) := (Lib.cell_of_heap HZ1.out _).trans rfl
    have z6 : w1.cell? ⟨R, 6, none⟩ = some (.int .i64 0) := (Lib.cell_of_heap HZ1.out _).trans rfl
    have z7 : w1.cell? ⟨R, 7, none⟩ = some (.int .i64 0) := (Lib.cell_of_heap HZ1.out _).trans rfl
    have f0 := Lib.frozen_of_heap HZ1.out 0
    have f1 := Lib.frozen_of_heap HZ1.out 1
    have f2 := Lib.frozen_of_heap HZ1.out 2
    have f3 := Lib.frozen_of_heap HZ1.out 3
    have f4 := Lib.frozen_of_heap HZ1.out 4
    have f5 := Lib.frozen_of_heap HZ1.out 5
    have f6 := Lib.frozen_of_heap HZ1.out 6
    have f7 := Lib.frozen_of_heap HZ1.out 7
    go_wp2_with fail
    refine bodyPost_ret (v := .tuple #[zeroPrg, .int .i64 2]) ?_ rfl ?_
    · simp [zeroPrg, results, Tryd.results16, go_sem, z0, z1, z2, z3, z4, z5, z6, z7]
    refine ⟨?_, ?_⟩
    · first | exact below_setR HB1.out hRw _ _ _ _ _ _ _ _ | exact HB1.out
    · rw [HD.out]; try rfl
  · obtain ⟨ad, rfl⟩ : ∃ ad, a = some ad := by
      cases a with
      | none => have := HNIL.out rfl; omega
      | some ad => exact ⟨_, rfl⟩
    obtain ⟨g, o, hgo⟩ : ∃ g o, ad = ⟨g, o, none⟩ := by
      obtain ⟨y, hy⟩ : ∃ y, bs[0]? = some y := ⟨_, List.getElem?_eq_getElem (by have := HN.out; omega)⟩
      obtain ⟨g, o, e, _⟩ := HAB.out w (Below.refl _ _) 0 y hy
      exact ⟨g, o, Option.some.inj e⟩
    subst hgo
    have hcv := conv_bs (some ⟨g, o, none⟩) c 4 (bs.take 4) w1 ((HAB.out w1 HB1.out).take 4) (by rw [List.length_take, HN.out]; omega)
    by_cases hm : bs.take 4 = magicL
    · have HM := Lib.hid hm
      have hcv' : (convert 35 9 (.slice (some ⟨g, o, none⟩) 4 c)).run Tryd.prog w1 = .ok (.string ⟨#[115, 104, 108, 49]⟩) w1 := by rw [hcv, hm]; rfl
      clear hcv hm
      by_cases h22 : n < 22
      · have HD : Hid (decodeP bs = .inl 2) := Lib.hid (decode_lt22 (by rw [HN.out]; omega) (by rw [HN.out]; exact h22) HM.out)
        have z0 : w1.cell? ⟨R, 0, none⟩ = some (.slice none 0 0) := (Lib.cell_of_heap HZ1.out _).trans rfl
        have z1 : w1.cell? ⟨R, 1, none⟩ = some (.slice none 0 0) := (Lib.cell_of_heap HZ1.out _).trans rfl
        have z2 : w1.cell? ⟨R, 2, none⟩ = some (.slice none 0 0) := (Lib.cell_of_heap HZ1.out _).trans rfl
        have z3 : w1.cell? ⟨R, 3, none⟩ = some (.slice none 0 0) := (Lib.cell_of_heap HZ1.out _).trans rfl
        have z4 : w1.cell? ⟨R, 4, none⟩ = some (.int .i64 0) := (Lib.cell_of_heap HZ1.out _).trans rfl
        have z5 : w1.cell? ⟨R, 5, none⟩ = some (.int .i64 0) := (Lib.cell_of_heap HZ1.out _).trans rfl
        have z6 : w1.cell? ⟨R, 6, none⟩ = some (.int .i64 0) := (Lib.cell_of_heap HZ1.out _).trans rfl
        have z7 : w1.cell? ⟨R, 7, none⟩ = some (.int .i64 0) := (Lib.cell_of_heap HZ1.out _).trans rfl
        have f0 := Lib.frozen_of_heap HZ1.out 0
        have f1 := Lib.frozen_of_heap HZ1.out 1
        have f2 := Lib.frozen_of_heap HZ1.out 2
        have f3 := Lib.frozen_of_heap HZ1.out 3
        have f4 := Lib.frozen_of_heap HZ1.out 4
        have f5 := Lib.frozen_of_heap HZ1.out 5
        have f6 := Lib.frozen_of_heap HZ1.out 6
        have f7 := Lib.frozen_of_heap HZ1.out 7
        go_wp2_with fail
        refine bodyPost_ret (v := .tuple #[zeroPrg, .int .i64 2]) ?_ rfl ?_
        · simp [zeroPrg, results, Tryd.results16, go_sem, z0, z1, z2, z3, z4, z5, z6, z7]
        refine ⟨?_, ?_⟩
        · first | exact below_setR HB1.out hRw _ _ _ _ _ _ _ _ | exact HB1.out
        · rw [HD.out]; try rfl
      · have H22 : Hid (22 ≤ bs.length) := Lib.hid (by rw [HN.out]; omega)
        obtain ⟨x1, hx1⟩ : ∃ x, beOf ((bs.drop 4).take 2) = x := ⟨_, rfl⟩
        obtain ⟨x2, hx2⟩ : ∃ x, beOf ((bs.drop 6).take 2) = x := ⟨_, rfl⟩
        obtain ⟨x3, hx3⟩ : ∃ x, beOf ((bs.drop 8).take 2) = x := ⟨_, rfl⟩
        obtain ⟨x4, hx4⟩ : ∃ x, beOf ((bs.drop 10).take 2) = x := ⟨_, rfl⟩
        obtain ⟨x5, hx5⟩ : ∃ x, beOf ((bs.drop 12).take 2) = x := ⟨_, rfl⟩
        obtain ⟨x6, hx6⟩ : ∃ x, beOf ((bs.drop 14).take 2) = x := ⟨_, rfl⟩
        obtain ⟨x7, hx7⟩ : ∃ x, beOf ((bs.drop 16).take 2) = x := ⟨_, rfl⟩
        obtain ⟨x8, hx8⟩ : ∃ x, beOf ((bs.drop 18).take 4) = x := ⟨_, rfl⟩
        have HG1 := Lib.hid (fun (W : World) (hW : Below w.heap.size w W) (pI kI : Int) (hp : ((4 : Nat) : Int) = pI) (hk : ((2 : Nat) : Int) = kI) => rget_at (some ⟨g, o, none⟩) n c 2 4 x1 pI kI bs W (HAB.out W hW) HN.out (by omega) (by omega) hp hk hb hx1)
        have HG2 := Lib.hid (fun (W : World) (hW : Below w.heap.size w W) (pI kI : Int) (hp : ((6 : Nat) : Int) = pI) (hk : ((2 : Nat) : Int) = kI) => rget_at (some ⟨g, o, none⟩) n c 2 6 x2 pI kI bs W (HAB.out W hW) HN.out (by omega) (by omega) hp hk hb hx2)
        have HG3 := Lib.hid (fun (W : World) (hW : Below w.heap.size w W) (pI kI : Int) (hp : ((8 : Nat) : Int) = pI) (hk : ((2 : Nat) : Int) = kI) => rget_at (some ⟨g, o, none⟩) n c 2 8 x3 pI kI bs W (HAB.out W hW) HN.out (by omega) (by omega) hp hk hb hx3)
        have HG4 := Lib.hid (fun (W : World) (hW : Below w.heap.size w W) (pI kI : Int) (hp : ((10 : Nat) : Int) = pI) (hk : ((2 : Nat) : Int) = kI) => rget_at (some ⟨g, o, none⟩) n c 2 10 x4 pI kI bs W (HAB.out W hW) HN.out (by omega) (by omega) hp hk hb hx4)
        have HG5 := Lib.hid (fun (W : World) (hW : Below w.heap.size w W) (pI kI : Int) (hp : ((12 : Nat) : Int) = pI) (hk : ((2 : Nat) : Int) = kI) => rget_at (some ⟨g, o, none⟩) n c 2 12 x5 pI kI bs W (HAB.out W hW) HN.out (by omega) (by omega) hp hk hb hx5)
        have HG6 := Lib.hid (fun (W : World) (hW : Below w.heap.size w W) (pI kI : Int) (hp : ((14 : Nat) : Int) = pI) (hk : ((2 : Nat) : Int) = kI) => rget_at (some ⟨g, o, none⟩) n c 2 14 x6 pI kI bs W (HAB.out W hW) HN.out (by omega) (by omega) hp hk hb hx6)
        have HG7 := Lib.hid (fun (W : World) (hW : Below w.heap.size w W) (pI kI : Int) (hp : ((16 : Nat) : Int) = pI) (hk : ((2 : Nat) : Int) = kI) => rget_at (some ⟨g, o, none⟩) n c 2 16 x7 pI kI bs W (HAB.out W hW) HN.out (by omega) (by omega) hp hk hb hx7)
        have HG8 := Lib.hid (fun (W : World) (hW : Below w.heap.size w W) (pI kI : Int) (hp : ((18 : Nat) : Int) = pI) (hk : ((4 : Nat) : Int) = kI) => rget_at (some ⟨g, o, none⟩) n c 4 18 x8 pI kI bs W (HAB.out W hW) HN.out (by omega) (by omega) hp hk hb hx8)
        have hl1 : x1 ≤ 65535 := by rw [← hx1]; have h := beOf_take_lt (k := 2) (l := bs.drop 4) (by have := H22.out; rw [List.length_drop]; omega); omega
        have hl2 : x2 ≤ 65535 := by rw [← hx2]; have h := beOf_take_lt (k := 2) (l := bs.drop 6) (by have := H22.out; rw [List.length_drop]; omega); omega
        have hl3 : x3 ≤ 65535 := by rw [← hx3]; have h := beOf_take_lt (k := 2) (l := bs.drop 8) (by have := H22.out; rw [List.length_drop]; omega); omega
        have hl4 : x4 ≤ 65535 := by rw [← hx4]; have h := beOf_take_lt (k := 2) (l := bs.drop 10) (by have := H22.out; rw [List.length_drop]; omega); omega
        have hl5 : x5 ≤ 65535 := by rw [← hx5]; have h := beOf_take_lt (k := 2) (l := bs.drop 12) (by have := H22.out; rw [List.length_drop]; omega); omega
        have hl6 : x6 ≤ 65535 := by rw [← hx6]; have h := beOf_take_lt (k := 2) (l := bs.drop 14) (by have := H22.out; rw [List.length_drop]; omega); omega
        have hl7 : x7 ≤ 65535 := by rw [← hx7]; have h := beOf_take_lt (k := 2) (l := bs.drop 16) (by have := H22.out; rw [List.length_drop]; omega); omega
        have hl8 : x8 ≤ 4294967295 := by rw [← hx8]; have h := beOf_take_lt (k := 4) (l := bs.drop 18) (by have := H22.out; rw [List.length_drop]; omega); omega
        have HPA : Hid (progR (bs.drop 4) = bodyR x1 x2 x3 x4 x5 x6 x7 x8 (bs.drop 22)) := Lib.hid (by rw [progR_at H22.out, hx1, hx2, hx3, hx4, hx5, hx6, hx7, hx8])
        have HBODY := Lib.hid (fun (W : World) (hW : Below w.heap.size w W) => rbody (some ⟨g, o, none⟩) n c 22 x1 x2 x3 x4 x5 x6 x7 x8 22 bs W (HAB.out W hW) HN.out hcl HNIL.out (by omega) rfl hb ⟨hl1, hl2, hl3, hl4⟩)
        clear hx1 hx2 hx3 hx4 hx5 hx6 hx7 hx8
        obtain ⟨v0, N, hwn, hN⟩ : ∃ wn N, w1.alloc (.cells #[.int .i64 0, .int .i64 0, .int .i64 0, .int .i64 0, .int .i64 0, .int .i64 0, .int .i64 0] 105) = wn ∧ w1.heap.size = N := ⟨_, _, rfl, rfl⟩
        have hbn : Below w1.heap.size w1 v0 := by rw [← hwn]; exact (Below.refl _ _).alloc (Nat.le_refl _) _
        have hn0 : v0.heap[N]? = some (.cells #[.int .i64 0, .int .i64 0, .int .i64 0, .int .i64 0, .int .i64 0, .int .i64 0, .int .i64 0] 105 (0, 0)) := by rw [← hwn, ← hN]; exact heap_new _ _
        have hNR : R ≠ N := by omega
        have hwN : w.heap.size ≤ N := by omega
        have HZ_0 : Hid (ZeroAt R v0) := Lib.hid ((hbn.block R hR1).trans HZ1.out)
        have HB_0 := Lib.hid (HB1.out.trans (hbn.mono HB1.out.size))
        have HKN_0 := Lib.hid hn0
        have Hwn := Lib.hid hwn
        have HNe := Lib.hid hN
        clear hbn hn0 hwn hN
        go_upto_region 8 with fail
        rw [Hwn.out, HNe.out]
        clear Hwn HNe hcv'
        go_wp2_with fail
        refine wp_loop_rounds 8 ?_
        rw [rounds_succ]
        have cN : v0.cell? ⟨N, 0, none⟩ = some (.int .i64 0) := (Lib.cell_of_heap HKN_0.out _).trans rfl
        have fN := Lib.frozen_of_heap HKN_0.out 0
        go_wp2_with fail
        refine (HG1.out v0 HB_0.out _ _ rfl rfl).mono ?_
        rintro e w' ⟨⟨atI, ok, rfl⟩, rfl⟩
        obtain ⟨v1, hv⟩ : ∃ v, v0.setCell ⟨N, 0, none⟩ (.int .i64 x1) = v := ⟨_, rfl⟩
        have HKN_1 : Hid (v1.heap[N]? = some (.cells #[.int .i64 x1, .int .i64 0, .int .i64 0, .int .i64 0, .int .i64 0, .int .i64 0, .int .i64 0] 105 (0, 0))) := Lib.hid (by rw [← hv]; exact setk_heap HKN_0.out _)
        have HB_1 : Hid (Below w.heap.size w v1) := Lib.hid (by rw [← hv]; exact HB_0.out.setCell (p := ⟨N, 0, none⟩) hwN _)
        have HZ_1 : Hid (ZeroAt R v1) := Lib.hid (by unfold ZeroAt; rw [← hv, heap_set_ne hNR]; exact HZ_0.out)
        have HV := Lib.hid hv
        clear hv
        go_wp2_with fail
        rw [HV.out]
        clear HV cN fN HKN_0 HB_0 HZ_0 HG1
        rw [rounds_succ]
        have cN : v1.cell? ⟨N, 1, none⟩ = some (.int .i64 0) := (Lib.cell_of_heap HKN_1.out _).trans rfl
        have fN := Lib.frozen_of_heap HKN_1.out 1
        go_wp2_with fail
        refine (HG2.out v1 HB_1.out _ _ rfl rfl).mono ?_
        rintro e w' ⟨⟨atI, ok, rfl⟩, rfl⟩
        obtain ⟨v2, hv⟩ : ∃ v, v1.setCell ⟨N, 1, none⟩ (.int .i64 x2) = v := ⟨_, rfl⟩
        have HKN_2 : Hid (v2.heap[N]? = some (.cells #[.int .i64 x1, .int .i64 x2, .int .i64 0, .int .i64 0, .int .i64 0, .int .i64 0, .int .i64 0] 105 (0, 0))) := Lib.hid (by rw [← hv]; exact setk_heap HKN_1.out _)
        have HB_2 : Hid (Below w.heap.size w v2) := Lib.hid (by rw [← hv]; exact HB_1.out.setCell (p := ⟨N, 1, none⟩) hwN _)
        have HZ_2 : Hid (ZeroAt R v2) := Lib.hid (by unfold ZeroAt; rw [← hv, heap_set_ne hNR]; exact HZ_1.out)
        have HV := Lib.hid hv
        clear hv
        go_wp2_with fail
        rw [HV.out]
        clear HV cN fN HKN_1 HB_1 HZ_1 HG2
        rw [rounds_succ]
        have cN : v2.cell? ⟨N, 2, none⟩ = some (.int .i64 0) := (Lib.cell_of_heap HKN_2.out _).trans rfl
        have fN := Lib.frozen_of_heap HKN_2.out 2
        go_wp2_with fail
        refine (HG3.out v2 HB_2.out _ _ rfl rfl).mono ?_
        rintro e w' ⟨⟨atI, ok, rfl⟩, rfl⟩
        obtain ⟨v3, hv⟩ : ∃ v, v2.setCell ⟨N, 2, none⟩ (.int .i64 x3) = v := ⟨_, rfl⟩
        have HKN_3 : Hid (v3.heap[N]? = some (.cells #[.int .i64 x1, .int .i64 x2, .int .i64 x3, .int .i64 0, .int .i64 0, .int .i64 0, .int .i64 0] 105 (0, 0))) := Lib.hid (by rw [← hv]; exact setk_heap HKN_2.out _)
        have HB_3 : Hid (Below w.heap.size w v3) := Lib.hid (by rw [← hv]; exact HB_2.out.setCell (p := ⟨N, 2, none⟩) hwN _)
        have HZ_3 : Hid (ZeroAt R v3) := Lib.hid (by unfold ZeroAt; rw [← hv, heap_set_ne hNR]; exact HZ_2.out)
        have HV := Lib.hid hv
        clear hv
        go_wp2_with fail
        rw [HV.out]
        clear HV cN fN HKN_2 HB_2 HZ_2 HG3
        rw [rounds_succ]
        have cN : v3.cell? ⟨N, 3, none⟩ = some (.int .i64 0) := (Lib.cell_of_heap HKN_3.out _).trans rfl
        have fN := Lib.frozen_of_heap HKN_3.out 3
        go_wp2_with fail
        refine (HG4.out v3 HB_3.out _ _ rfl rfl).mono ?_
        rintro e w' ⟨⟨atI, ok, rfl⟩, rfl⟩
        obtain ⟨v4, hv⟩ : ∃ v, v3.setCell ⟨N, 3, none⟩ (.int .i64 x4) = v := ⟨_, rfl⟩
        have HKN_4 : Hid (v4.heap[N]? = some (.cells #[.int .i64 x1, .int .i64 x2, .int .i64 x3, .int .i64 x4, .int .i64 0, .int .i64 0, .int .i64 0] 105 (0, 0))) := Lib.hid (by rw [← hv]; exact setk_heap HKN_3.out _)
        have HB_4 : Hid (Below w.heap.size w v4) := Lib.hid (by rw [← hv]; exact HB_3.out.setCell (p := ⟨N, 3, none⟩) hwN _)
        have HZ_4 : Hid (ZeroAt R v4) := Lib.hid (by unfold ZeroAt; rw [← hv, heap_set_ne hNR]; exact HZ_3.out)
        have HV := Lib.hid hv
        clear hv
        go_wp2_with fail
        rw [HV.out]
        clear HV cN fN HKN_3 HB_3 HZ_3 HG4
        rw [rounds_succ]
        have cN : v4.cell? ⟨N, 4, none⟩ = some (.int .i64 0) := (Lib.cell_of_heap HKN_4.out _).trans rfl
        have fN := Lib.frozen_of_heap HKN_4.out 4
        go_wp2_with fail
        refine (HG5.out v4 HB_4.out _ _ rfl rfl).mono ?_
        rintro e w' ⟨⟨atI, ok, rfl⟩, rfl⟩
        obtain ⟨v5, hv⟩ : ∃ v, v4.setCell ⟨N, 4, none⟩ (.int .i64 x5) = v := ⟨_, rfl⟩
        have HKN_5 : Hid (v5.heap[N]? = some (.cells #[.int .i64 x1, .int .i64 x2, .int .i64 x3, .int .i64 x4, .int .i64 x5, .int .i64 0, .int .i64 0] 105 (0, 0))) := Lib.hid (by rw [← hv]; exact setk_heap HKN_4.out _)
        have HB_5 : Hid (Below w.heap.size w v5) := Lib.hid (by rw [← hv]; exact HB_4.out.setCell (p := ⟨N, 4, none⟩) hwN _)
        have HZ_5 : Hid (ZeroAt R v5) := Lib.hid (by unfold ZeroAt; rw [← hv, heap_set_ne hNR]; exact HZ_4.out)
        have HV := Lib.hid hv
        clear hv
        go_wp2_with fail
        rw [HV.out]
        clear HV cN fN HKN_4 HB_4 HZ_4 HG5
        rw [rounds_succ]
        have cN : v5.cell? ⟨N, 5, none⟩ = some (.int .i64 0) := (Lib.cell_of_heap HKN_5.out _).trans rfl
        have fN := Lib.frozen_of_heap HKN_5.out 5
        go_wp2_with fail
        refine (HG6.out v5 HB_5.out _ _ rfl rfl).mono ?_
        rintro e w' ⟨⟨atI, ok, rfl⟩, rfl⟩
        obtain ⟨v6, hv⟩ : ∃ v, v5.setCell ⟨N, 5, none⟩ (.int .i64 x6) = v := ⟨_, rfl⟩
        have HKN_6 : Hid (v6.heap[N]? = some (.cells #[.int .i64 x1, .int .i64 x2, .int .i64 x3, .int .i64 x4, .int .i64 x5, .int .i64 x6, .int .i64 0] 105 (0, 0))) := Lib.hid (by rw [← hv]; exact setk_heap HKN_5.out _)
        have HB_6 : Hid (Below w.heap.size w v6) := Lib.hid (by rw [← hv]; exact HB_5.out.setCell (p := ⟨N, 5, none⟩) hwN _)
        have HZ_6 : Hid (ZeroAt R v6) := Lib.hid (by unfold ZeroAt; rw [← hv, heap_set_ne hNR]; exact HZ_5.out)
        have HV := Lib.hid hv
        clear hv
        go_wp2_with fail
        rw [HV.out]
        clear HV cN fN HKN_5 HB_5 HZ_5 HG6
        rw [rounds_succ]
        have cN : v6.cell? ⟨N, 6, none⟩ = some (.int .i64 0) := (Lib.cell_of_heap HKN_6.out _).trans rfl
        have fN := Lib.frozen_of_heap HKN_6.out 6
        go_wp2_with fail
        refine (HG7.out v6 HB_6.out _ _ rfl rfl).mono ?_
        rintro e w' ⟨⟨atI, ok, rfl⟩, rfl⟩
        obtain ⟨v7, hv⟩ : ∃ v, v6.setCell ⟨N, 6, none⟩ (.int .i64 x7) = v := ⟨_, rfl⟩
        have HKN_7 : Hid (v7.heap[N]? = some (.cells #[.int .i64 x1, .int .i64 x2, .int .i64 x3, .int .i64 x4, .int .i64 x5, .int .i64 x6, .int .i64 x7] 105 (0, 0))) := Lib.hid (by rw [← hv]; exact setk_heap HKN_6.out _)
        have HB_7 : Hid (Below w.heap.size w v7) := Lib.hid (by rw [← hv]; exact HB_6.out.setCell (p := ⟨N, 6, none⟩) hwN _)
        have HZ_7 : Hid (ZeroAt R v7) := Lib.hid (by unfold ZeroAt; rw [← hv, heap_set_ne hNR]; exact HZ_6.out)
        have HV := Lib.hid hv
        clear hv
        go_wp2_with fail
        rw [HV.out]
        clear HV cN fN HKN_6 HB_6 HZ_6 HG7
        rw [rounds_succ]
        go_wp2_with fail
        refine (HG8.out v7 HB_7.out _ _ rfl rfl).mono ?_
        rintro e w' ⟨⟨atI0, ok0, rfl⟩, rfl⟩
        have n0 : v7.cell? ⟨N, 0, none⟩ = some (.int .i64 x1) := (Lib.cell_of_heap HKN_7.out _).trans rfl
        have n1 : v7.cell? ⟨N, 1, none⟩ = some (.int .i64 x2) := (Lib.cell_of_heap HKN_7.out _).trans rfl
        have n2 : v7.cell? ⟨N, 2, none⟩ = some (.int .i64 x3) := (Lib.cell_of_heap HKN_7.out _).trans rfl
        have n3 : v7.cell? ⟨N, 3, none⟩ = some (.int .i64 x4) := (Lib.cell_of_heap HKN_7.out _).trans rfl
        have n4 : v7.cell? ⟨N, 4, none⟩ = some (.int .i64 x5) := (Lib.cell_of_heap HKN_7.out _).trans rfl
        have n5 : v7.cell? ⟨N, 5, none⟩ = some (.int .i64 x6) := (Lib.cell_of_heap HKN_7.out _).trans rfl
        have n6 : v7.cell? ⟨N, 6, none⟩ = some (.int .i64 x7) := (Lib.cell_of_heap HKN_7.out _).trans rfl
        go_wp2_with fail
        refine (HBODY.out v7 HB_7.out).mono ?_
        rintro e w3 ⟨s0, s1, s2, s3, vs1, vs2, vs3, k0, k1, k2, k3, q, atI, ok, rfl, hb3, ho0, ⟨ho1, hm1⟩, ⟨ho2, hm2⟩, ⟨ho3, hm3⟩, hat, hst⟩
        clear n0 n1 n2 n3 n4 n5 n6
        obtain ⟨p, hp⟩ : ∃ p : PProg, (⟨k0, k1, k2, k3, x5, x6, x7, x8⟩ : PProg) = p := ⟨_, rfl⟩
        obtain rfl : k0 = p.code := by rw [← hp]
        obtain rfl : k1 = p.msgs := by rw [← hp]
        obtain rfl : k2 = p.routes := by rw [← hp]
        obtain rfl : k3 = p.sends := by rw [← hp]
        have e5 : p.vars = (x5 : Int) := by rw [← hp]
        have e6 : p.stack = (x6 : Int) := by rw [← hp]
        have e7 : p.blocks = (x7 : Int) := by rw [← hp]
        have e8 : p.fuel = (x8 : Int) := by rw [← hp]
        rw [hp] at hst
        have hl1' := hm1.len
        have hl2' := hm2.len
        rw [hl1'] at ho1
        rw [hl2'] at ho2
        have hs7 := HB_7.out.size
        replace ho0 := mown_base hs7 ho0
        replace ho1 := mown_base hs7 ho1
        replace ho2 := mown_base hs7 ho2
        replace ho3 := mown_base hs7 ho3
        replace hm1 := OwnR.base hs7 hm1
        replace hm2 := OwnR.base hs7 hm2
        replace hm3 := OwnR.base hs7 hm3
        obtain ⟨a9, c9, rfl⟩ := own_slice_n ho0
        obtain ⟨a10, c10, rfl⟩ := own_slice_n ho1
        obtain ⟨a11, c11, rfl⟩ := own_slice_n ho2
        obtain ⟨a12, c12, rfl⟩ := own_slice_n ho3
        have HOW := Lib.hid (fun (hf : (∀ x ∈ p.code, x.op ≤ 255) ∧ (p.code.length ≤ 65535 ∧ p.msgs.length ≤ 65535 ∧ p.routes.length ≤ 65535 ∧ p.sends.length ≤ 65535) ∧ (∀ x ∈ p.routes, x.length ≤ 255) ∧ (∀ x ∈ p.sends, x.routes.length ≤ 255)) => (⟨ho0, ⟨vs1, ho1, hm1⟩, ⟨vs2, ho2, hm2⟩, ⟨vs3, ho3, hm3⟩, hf.1, hf.2.1, hf.2.2.1, hf.2.2.2⟩ : OwnPrg w.heap.size w3 p a9 a10 a11 a12 c9 c10 c11 c12))
        have HST := Lib.hid hst
        have HAT := Lib.hid hat
        obtain ⟨l0, hl0⟩ : ∃ l, p.code.length = l := ⟨_, rfl⟩
        obtain ⟨l1, hl1e⟩ : ∃ l, p.msgs.length = l := ⟨_, rfl⟩
        obtain ⟨l2, hl2e⟩ : ∃ l, p.routes.length = l := ⟨_, rfl⟩
        obtain ⟨l3, hl3e⟩ : ∃ l, p.sends.length = l := ⟨_, rfl⟩
        rw [hl0, hl1e, hl2e, hl3e]
        obtain ⟨w4, P, hw4, hP⟩ : ∃ w4 P, w3.alloc (.cells #[.slice a9 l0 c9, .slice a10 l1 c10, .slice a11 l2 c11, .slice a12 l3 c12, .int .i64 x5, .int .i64 x6, .int .i64 x7, .int .i64 x8] 28) = w4 ∧ w3.heap.size = P := ⟨_, _, rfl, rfl⟩
        have hb4 : Below w3.heap.size w3 w4 := by rw [← hw4]; exact (Below.refl _ _).alloc (Nat.le_refl _) _
        have hp4 : w4.heap[P]? = some (.cells #[.slice a9 l0 c9, .slice a10 l1 c10, .slice a11 l2 c11, .slice a12 l3 c12, .int .i64 x5, .int .i64 x6, .int .i64 x7, .int .i64 x8] 28 (0, 0)) := by rw [← hw4, ← hP]; exact heap_new _ _
        have hR7 : R < v7.heap.size := (Array.getElem?_eq_some_iff.1 HZ_7.out).1
        have HZ3 : Hid (ZeroAt R w3) := Lib.hid ((hb3.block R hR7).trans HZ_7.out)
        have hR3 : R < w3.heap.size := (Array.getElem?_eq_some_iff.1 HZ3.out).1
        have HZ4 : Hid (ZeroAt R w4) := Lib.hid ((hb4.block R hR3).trans HZ3.out)
        have hR4 : R < w4.heap.size := (Array.getElem?_eq_some_iff.1 HZ4.out).1
        have HB3 := Lib.hid (HB_7.out.trans (hb3.mono hs7))
        have HB4 := Lib.hid (HB3.out.trans (hb4.mono HB3.out.size))
        have HBB := Lib.hid hb4
        have HP4 := Lib.hid hp4
        have HW4 := Lib.hid hw4
        have HPE := Lib.hid hP
        have HLS := Lib.hid (show p.code.length = l0 ∧ p.msgs.length = l1 ∧ p.routes.length = l2 ∧ p.sends.length = l3 from ⟨hl0, hl1e, hl2e, hl3e⟩)
        have HES := Lib.hid (show p.vars = (x5 : Int) ∧ p.stack = (x6 : Int) ∧ p.blocks = (x7 : Int) ∧ p.fuel = (x8 : Int) from ⟨e5, e6, e7, e8⟩)
        clear hb3 hb4 hp4 hw4 hP ho0 ho1 ho2 ho3 hm1 hm2 hm3 hst hat hp e5 e6 e7 e8 hl0 hl1e hl2e hl3e hl1' hl2'
        go_upto_region 14 with fail
        rw [HW4.out, HPE.out]
        clear HW4 HPE
        cases ok
        · have HD : Hid (decodeP bs = .inl 2) := Lib.hid (decode_none (by have := H22.out; omega) HM.out (by rw [HPA.out]; exact HST.out.bad))
          have z0 : w4.cell? ⟨R, 0, none⟩ = some (.slice none 0 0) := (Lib.cell_of_heap HZ4.out _).trans rfl
          have z1 : w4.cell? ⟨R, 1, none⟩ = some (.slice none 0 0) := (Lib.cell_of_heap HZ4.out _).trans rfl
          have z2 : w4.cell? ⟨R, 2, none⟩ = some (.slice none 0 0) := (Lib.cell_of_heap HZ4.out _).trans rfl
          have z3 : w4.cell? ⟨R, 3, none⟩ = some (.slice none 0 0) := (Lib.cell_of_heap HZ4.out _).trans rfl
          have z4 : w4.cell? ⟨R, 4, none⟩ = some (.int .i64 0) := (Lib.cell_of_heap HZ4.out _).trans rfl
          have z5 : w4.cell? ⟨R, 5, none⟩ = some (.int .i64 0) := (Lib.cell_of_heap HZ4.out _).trans rfl
          have z6 : w4.cell? ⟨R, 6, none⟩ = some (.int .i64 0) := (Lib.cell_of_heap HZ4.out _).trans rfl
          have z7 : w4.cell? ⟨R, 7, none⟩ = some (.int .i64 0) := (Lib.cell_of_heap HZ4.out _).trans rfl
          have f0 := Lib.frozen_of_heap HZ4.out 0
          have f1 := Lib.frozen_of_heap HZ4.out 1
          have f2 := Lib.frozen_of_heap HZ4.out 2
          have f3 := Lib.frozen_of_heap HZ4.out 3
          have f4 := Lib.frozen_of_heap HZ4.out 4
          have f5 := Lib.frozen_of_heap HZ4.out 5
          have f6 := Lib.frozen_of_heap HZ4.out 6
          have f7 := Lib.frozen_of_heap HZ4.out 7
          go_wp2_with fail
          refine bodyPost_ret (v := .tuple #[zeroPrg, .int .i64 2]) ?_ rfl ?_
          · simp [zeroPrg, results, Tryd.results16, go_sem, z0, z1, z2, z3, z4, z5, z6, z7]
          refine ⟨?_, ?_⟩
          · first | exact below_setR HB4.out hRw _ _ _ _ _ _ _ _ | exact HB4.out
          · rw [HD.out]; try rfl

        · obtain ⟨hat, hqn⟩ := HAT.out rfl
          subst hat
          have HPR : Hid (progR (bs.drop 4) = some (p, bs.drop q)) := Lib.hid (by rw [HPA.out]; exact HST.out.ok.2)
          have hqn' : q ≤ n := by rw [← HN.out]; exact hqn
          clear hqn
          by_cases hqe : q = n
          · have HPR2 : Hid (progR (bs.drop 4) = some (p, [])) := Lib.hid (by rw [HPR.out, List.drop_eq_nil_of_le (by rw [HN.out]; omega)])
            have HOWN := Lib.hid ((HOW.out (prog_facts HPR2.out)).below HBB.out)
            have HCK := Lib.hid (rcheck p a9 a10 a11 a12 c9 c10 c11 c12 w4 HOWN.out.prgA)
            unfold prgV at HCK
            rw [HLS.out.1, HLS.out.2.1, HLS.out.2.2.1, HLS.out.2.2.2, HES.out.1, HES.out.2.1, HES.out.2.2.1, HES.out.2.2.2] at HCK
            obtain ⟨ck, hck⟩ : ∃ ck, checkP p = ck := ⟨_, rfl⟩
            rw [hck] at HCK
            have HCKE := Lib.hid hck
            subst hqe
            clear hck
            have y0 : w4.cell? ⟨P, 0, none⟩ = some (.slice a9 l0 c9) := (Lib.cell_of_heap HP4.out _).trans rfl
            have y1 : w4.cell? ⟨P, 1, none⟩ = some (.slice a10 l1 c10) := (Lib.cell_of_heap HP4.out _).trans rfl
            have y2 : w4.cell? ⟨P, 2, none⟩ = some (.slice a11 l2 c11) := (Lib.cell_of_heap HP4.out _).trans rfl
            have y3 : w4.cell? ⟨P, 3, none⟩ = some (.slice a12 l3 c12) := (Lib.cell_of_heap HP4.out _).trans rfl
            have y4 : w4.cell? ⟨P, 4, none⟩ = some (.int .i64 x5) := (Lib.cell_of_heap HP4.out _).trans rfl
            have y5 : w4.cell? ⟨P, 5, none⟩ = some (.int .i64 x6) := (Lib.cell_of_heap HP4.out _).trans rfl
            have y6 : w4.cell? ⟨P, 6, none⟩ = some (.int .i64 x7) := (Lib.cell_of_heap HP4.out _).trans rfl
            have y7 : w4.cell? ⟨P, 7, none⟩ = some (.int .i64 x8) := (Lib.cell_of_heap HP4.out _).trans rfl
            go_wp2_with fail
            refine HCK.out.mono ?_
            rintro e w5 ⟨rfl, hb5⟩
            have HO5 := Lib.hid (HOWN.out.below hb5)
            have HZ5 : Hid (ZeroAt R w5) := Lib.hid ((hb5.block R hR4).trans HZ4.out)
            have hp5 := (hb5.block P (Array.getElem?_eq_some_iff.1 HP4.out).1).trans HP4.out
            have HB5 := Lib.hid (HB4.out.trans (hb5.mono HB4.out.size))
            clear y0 y1 y2 y3 y4 y5 y6 y7
            have y0 : w5.cell? ⟨P, 0, none⟩ = some (.slice a9 l0 c9) := (Lib.cell_of_heap hp5 _).trans rfl
            have y1 : w5.cell? ⟨P, 1, none⟩ = some (.slice a10 l1 c10) := (Lib.cell_of_heap hp5 _).trans rfl
            have y2 : w5.cell? ⟨P, 2, none⟩ = some (.slice a11 l2 c11) := (Lib.cell_of_heap hp5 _).trans rfl
            have y3 : w5.cell? ⟨P, 3, none⟩ = some (.slice a12 l3 c12) := (Lib.cell_of_heap hp5 _).trans rfl
            have y4 : w5.cell? ⟨P, 4, none⟩ = some (.int .i64 x5) := (Lib.cell_of_heap hp5 _).trans rfl
            have y5 : w5.cell? ⟨P, 5, none⟩ = some (.int .i64 x6) := (Lib.cell_of_heap hp5 _).trans rfl
            have y6 : w5.cell? ⟨P, 6, none⟩ = some (.int .i64 x7) := (Lib.cell_of_heap hp5 _).trans rfl
            have y7 : w5.cell? ⟨P, 7, none⟩ = some (.int .i64 x8) := (Lib.cell_of_heap hp5 _).trans rfl
            have z0 : w5.cell? ⟨R, 0, none⟩ = some (.slice none 0 0) := (Lib.cell_of_heap HZ5.out _).trans rfl
            have z1 : w5.cell? ⟨R, 1, none⟩ = some (.slice none 0 0) := (Lib.cell_of_heap HZ5.out _).trans rfl
            have z2 : w5.cell? ⟨R, 2, none⟩ = some (.slice none 0 0) := (Lib.cell_of_heap HZ5.out _).trans rfl
            have z3 : w5.cell? ⟨R, 3, none⟩ = some (.slice none 0 0) := (Lib.cell_of_heap HZ5.out _).trans rfl
            have z4 : w5.cell? ⟨R, 4, none⟩ = some (.int .i64 0) := (Lib.cell_of_heap HZ5.out _).trans rfl
            have z5 : w5.cell? ⟨R, 5, none⟩ = some (.int .i64 0) := (Lib.cell_of_heap HZ5.out _).trans rfl
            have z6 : w5.cell? ⟨R, 6, none⟩ = some (.int .i64 0) := (Lib.cell_of_heap HZ5.out _).trans rfl
            have z7 : w5.cell? ⟨R, 7, none⟩ = some (.int .i64 0) := (Lib.cell_of_heap HZ5.out _).trans rfl
            have f0 := Lib.frozen_of_heap HZ5.out 0
            have f1 := Lib.frozen_of_heap HZ5.out 1
            have f2 := Lib.frozen_of_heap HZ5.out 2
            have f3 := Lib.frozen_of_heap HZ5.out 3
            have f4 := Lib.frozen_of_heap HZ5.out 4
            have f5 := Lib.frozen_of_heap HZ5.out 5
            have f6 := Lib.frozen_of_heap HZ5.out 6
            have f7 := Lib.frozen_of_heap HZ5.out 7
            clear hb5 hp5
            by_cases hc0 : ck = 0
            · have HD : Hid (decodeP bs = .inr p) := Lib.hid (decode_ok (by have := H22.out; omega) HM.out HPR2.out (by rw [HCKE.out, hc0]))
              subst hc0
              go_wp2_with fail
              refine bodyPost_ret (v := .tuple #[.agg #[.slice a9 l0 c9, .slice a10 l1 c10, .slice a11 l2 c11, .slice a12 l3 c12, .int .i64 x5, .int .i64 x6, .int .i64 x7, .int .i64 x8], .int .i64 0]) ?_ rfl ?_
              · simp [results, Tryd.results16, go_sem, z0, z1, z2, z3, z4, z5, z6, z7]
              refine ⟨below_setR HB5.out hRw _ _ _ _ _ _ _ _, ?_⟩
              rw [HD.out]
              refine ⟨a9, a10, a11, a12, c9, c10, c11, c12, ?_, HO5.out.map fun e size v n xs hne ho => own_set8 HZ5.out ho (fun h => hne h.symm) _ _ _ _ _ _ _ _⟩
              unfold prgV
              rw [HLS.out.1, HLS.out.2.1, HLS.out.2.2.1, HLS.out.2.2.2, HES.out.1, HES.out.2.1, HES.out.2.2.1, HES.out.2.2.2]
            · have HD : Hid (decodeP bs = .inl ck) := Lib.hid (by rw [decode_check (by have := H22.out; omega) HM.out HPR2.out (by rw [HCKE.out]; exact hc0), HCKE.out])
              have ec : ((ck : Int) == 0) = false := by rw [beq_eq_false_iff_ne]; omega
              have ec2 : ((ck : Int) != 0) = true := by rw [bne_iff_ne]; omega
              clear hc0
              go_wp2_with fail
              refine bodyPost_ret (v := .tuple #[zeroPrg, .int .i64 ck]) ?_ rfl ?_
              · simp [zeroPrg, results, Tryd.results16, go_sem, z0, z1, z2, z3, z4, z5, z6, z7]
              refine ⟨?_, ?_⟩
              · first | exact below_setR HB5.out hRw _ _ _ _ _ _ _ _ | exact HB5.out
              · rw [HD.out]; try rfl
          · have HD : Hid (decodeP bs = .inl 2) := Lib.hid (decode_left (by have := H22.out; omega) HM.out HPR.out (by
              intro h
              have := congrArg List.length h
              rw [List.length_drop, HN.out] at this
              simp at this
              omega))
            have eq1 : ((q : Int) == (n : Int)) = false := by rw [beq_eq_false_iff_ne]; omega
            have eq2 : ((q : Int) != (n : Int)) = true := by rw [bne_iff_ne]; omega
            have z0 : w4.cell? ⟨R, 0, none⟩ = some (.slice none 0 0) := (Lib.cell_of_heap HZ4.out _).trans rfl
            have z1 : w4.cell? ⟨R, 1, none⟩ = some (.slice none 0 0) := (Lib.cell_of_heap HZ4.out _).trans rfl
            have z2 : w4.cell? ⟨R, 2, none⟩ = some (.slice none 0 0) := (Lib.cell_of_heap HZ4.out _).trans rfl
            have z3 : w4.cell? ⟨R, 3, none⟩ = some (.slice none 0 0) := (Lib.cell_of_heap HZ4.out _).trans rfl
            have z4 : w4.cell? ⟨R, 4, none⟩ = some (.int .i64 0) := (Lib.cell_of_heap HZ4.out _).trans rfl
            have z5 : w4.cell? ⟨R, 5, none⟩ = some (.int .i64 0) := (Lib.cell_of_heap HZ4.out _).trans rfl
            have z6 : w4.cell? ⟨R, 6, none⟩ = some (.int .i64 0) := (Lib.cell_of_heap HZ4.out _).trans rfl
            have z7 : w4.cell? ⟨R, 7, none⟩ = some (.int .i64 0) := (Lib.cell_of_heap HZ4.out _).trans rfl
            have f0 := Lib.frozen_of_heap HZ4.out 0
            have f1 := Lib.frozen_of_heap HZ4.out 1
            have f2 := Lib.frozen_of_heap HZ4.out 2
            have f3 := Lib.frozen_of_heap HZ4.out 3
            have f4 := Lib.frozen_of_heap HZ4.out 4
            have f5 := Lib.frozen_of_heap HZ4.out 5
            have f6 := Lib.frozen_of_heap HZ4.out 6
            have f7 := Lib.frozen_of_heap HZ4.out 7
            go_wp2_with fail
            refine bodyPost_ret (v := .tuple #[zeroPrg, .int .i64 2]) ?_ rfl ?_
            · simp [zeroPrg, results, Tryd.results16, go_sem, z0, z1, z2, z3, z4, z5, z6, z7]
            refine ⟨?_, ?_⟩
            · first | exact below_setR HB4.out hRw _ _ _ _ _ _ _ _ | exact HB4.out
            · rw [HD.out]; try rfl
    · have HD : Hid (decodeP bs = .inl 3) := Lib.hid (decode_form (by rw [HN.out]; omega) hm)
      have hne : ((⟨(bs.take 4).toArray⟩ : ByteArray).toList == (⟨#[115, 104, 108, 49]⟩ : ByteArray).toList) = false := by
        rw [beq_eq_false_iff_ne, Lib.toList_data, Lib.toList_data]
        exact hm
      have hne2 : ((⟨(bs.take 4).toArray⟩ : ByteArray).toList == [115, 104, 108, 49]) = false := by
        rw [beq_eq_false_iff_ne, Lib.toList_data]
        exact hm
      obtain ⟨s4, hs4⟩ : ∃ s4 : ByteArray, (⟨(bs.take 4).toArray⟩ : ByteArray) = s4 := ⟨_, rfl⟩
      rw [hs4] at hcv hne hne2
      clear hm hs4
      have z0 : w1.cell? ⟨R, 0, none⟩ = some (.slice none 0 0) := (Lib.cell_of_heap HZ1.out _).trans rfl
      have z1 : w1.cell? ⟨R, 1, none⟩ = some (.slice none 0 0) := (Lib.cell_of_heap HZ1.out _).trans rfl
      have z2 : w1.cell? ⟨R, 2, none⟩ = some (.slice none 0 0) := (Lib.cell_of_heap HZ1.out _).trans rfl
      have z3 : w1.cell? ⟨R, 3, none⟩ = some (.slice none 0 0) := (Lib.cell_of_heap HZ1.out _).trans rfl
      have z4 : w1.cell? ⟨R, 4, none⟩ = some (.int .i64 0) := (Lib.cell_of_heap HZ1.out _).trans rfl
      have z5 : w1.cell? ⟨R, 5, none⟩ = some (.int .i64 0) := (Lib.cell_of_heap HZ1.out _).trans rfl
      have z6 : w1.cell? ⟨R, 6, none⟩ = some (.int .i64 0) := (Lib.cell_of_heap HZ1.out _).trans rfl
      have z7 : w1.cell? ⟨R, 7, none⟩ = some (.int .i64 0) := (Lib.cell_of_heap HZ1.out _).trans rfl
      have f0 := Lib.frozen_of_heap HZ1.out 0
      have f1 := Lib.frozen_of_heap HZ1.out 1
      have f2 := Lib.frozen_of_heap HZ1.out 2
      have f3 := Lib.frozen_of_heap HZ1.out 3
      have f4 := Lib.frozen_of_heap HZ1.out 4
      have f5 := Lib.frozen_of_heap HZ1.out 5
      have f6 := Lib.frozen_of_heap HZ1.out 6
      have f7 := Lib.frozen_of_heap HZ1.out 7
      go_wp2_with fail
      refine bodyPost_ret (v := .tuple #[zeroPrg, .int .i64 3]) ?_ rfl ?_
      · simp [zeroPrg, results, Tryd.results16, go_sem, z0, z1, z2, z3, z4, z5, z6, z7]
      refine ⟨?_, ?_⟩
      · first | exact below_setR HB1.out hRw _ _ _ _ _ _ _ _ | exact HB1.out
      · rw [HD.out]; try rfl
end Go.Proofs.YtaijdpckkobofaaDoor
