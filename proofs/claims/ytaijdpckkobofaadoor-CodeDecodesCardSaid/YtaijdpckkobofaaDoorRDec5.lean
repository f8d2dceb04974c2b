/- The reference's body. (wip/gen_rdec5.py) -/
import Derived.Test.YtaijdpckkobofaaDoorRDec4
import Derived.Test.YtaijdpckkobofaaDoorDec9
import Derived.Deep.CutBlock
namespace Go.Proofs.YtaijdpckkobofaaDoor
open Go.RowKit
set_option linter.unusedVariables false

/-- the blocks of the call: the heads, the program, the result -/
structure BodyAt (B H P R : Nat) (w0 : World) (cs : Array Value) (v0 v1 v2 v3 x5 x6 x7 x8 : Value) (w : World) : Prop where
  below : Below B w0 w
  hh : w.heap[H]? = some (.cells cs 105 (0, 0))
  hp : w.heap[P]? = some (.cells #[v0, v1, v2, v3, x5, x6, x7, x8] 28 (0, 0))
  hr : ZeroAt R w
section
variable {B H P R : Nat} {w0 : World} {cs : Array Value} {v0 v1 v2 v3 x5 x6 x7 x8 : Value} {w w' : World}
theorem BodyAt.call (h : BodyAt B H P R w0 cs v0 v1 v2 v3 x5 x6 x7 x8 w) (hB : B ≤ w.heap.size) (hb : Below w.heap.size w w') : BodyAt B H P R w0 cs v0 v1 v2 v3 x5 x6 x7 x8 w' :=
  ⟨h.below.trans (hb.mono hB), (hb.block H (Array.getElem?_eq_some_iff.1 h.hh).1).trans h.hh, (hb.block P (Array.getElem?_eq_some_iff.1 h.hp).1).trans h.hp, (hb.block R (Array.getElem?_eq_some_iff.1 h.hr).1).trans h.hr⟩
theorem BodyAt.app {e : TypeId} {size : Nat} {v : Value} {n : Nat} {xs : List Value} {o : Obj} (h : BodyAt B H P R w0 cs v0 v1 v2 v3 x5 x6 x7 x8 w) (hB : B ≤ w.heap.size) (ho : w.ownsRow B e size v n xs) (h1 : 105 ≠ e) (h2 : 28 ≠ e) (hg : (w.alloc o).grownBy w' v.ownBlock) : BodyAt B H P R w0 cs v0 v1 v2 v3 x5 x6 x7 x8 w' :=
  ⟨mbelow_grow (h.below.alloc hB o) (by rw [World.size_alloc]; omega) (ho.alloc o) hg, block_app h.hh ho h1 hg, block_app h.hp ho h2 hg, block_app h.hr ho h2 hg⟩
theorem BodyAt.other {I k : Nat} {u : Value} (h : BodyAt B H P R w0 cs v0 v1 v2 v3 x5 x6 x7 x8 w) (hI : B ≤ I) (h1 : H ≠ I) (h2 : P ≠ I) (h3 : R ≠ I) : BodyAt B H P R w0 cs v0 v1 v2 v3 x5 x6 x7 x8 (w.setCell ⟨I, k, none⟩ u) :=
  ⟨h.below.setCell (p := ⟨I, k, none⟩) hI u, (heap_set_ne h1 k u).trans h.hh, (heap_set_ne h2 k u).trans h.hp, (heap_set_ne h3 k u).trans h.hr⟩
theorem BodyAt.set {k : Nat} {u : Value} (h : BodyAt B H P R w0 cs v0 v1 v2 v3 x5 x6 x7 x8 w) (hI : B ≤ P) (h1 : H ≠ P) (h3 : R ≠ P) : Below B w0 (w.setCell ⟨P, k, none⟩ u) ∧ (w.setCell ⟨P, k, none⟩ u).heap[H]? = some (.cells cs 105 (0, 0)) ∧ ZeroAt R (w.setCell ⟨P, k, none⟩ u) :=
  ⟨h.below.setCell (p := ⟨P, k, none⟩) hI u, (heap_set_ne h1 k u).trans h.hh, (heap_set_ne h3 k u).trans h.hr⟩
theorem BodyAt.set0 (u : Value) (h : BodyAt B H P R w0 cs v0 v1 v2 v3 x5 x6 x7 x8 w) (hI : B ≤ P) (h1 : H ≠ P) (h3 : R ≠ P) : BodyAt B H P R w0 cs u v1 v2 v3 x5 x6 x7 x8 (w.setCell ⟨P, 0, none⟩ u) :=
  ⟨(h.set hI h1 h3).1, (h.set hI h1 h3).2.1, setk_heap h.hp u, (h.set hI h1 h3).2.2⟩
theorem BodyAt.set1 (u : Value) (h : BodyAt B H P R w0 cs v0 v1 v2 v3 x5 x6 x7 x8 w) (hI : B ≤ P) (h1 : H ≠ P) (h3 : R ≠ P) : BodyAt B H P R w0 cs v0 u v2 v3 x5 x6 x7 x8 (w.setCell ⟨P, 1, none⟩ u) :=
  ⟨(h.set hI h1 h3).1, (h.set hI h1 h3).2.1, setk_heap h.hp u, (h.set hI h1 h3).2.2⟩
theorem BodyAt.set2 (u : Value) (h : BodyAt B H P R w0 cs v0 v1 v2 v3 x5 x6 x7 x8 w) (hI : B ≤ P) (h1 : H ≠ P) (h3 : R ≠ P) : BodyAt B H P R w0 cs v0 v1 u v3 x5 x6 x7 x8 (w.setCell ⟨P, 2, none⟩ u) :=
  ⟨(h.set hI h1 h3).1, (h.set hI h1 h3).2.1, setk_heap h.hp u, (h.set hI h1 h3).2.2⟩
theorem BodyAt.set3 (u : Value) (h : BodyAt B H P R w0 cs v0 v1 v2 v3 x5 x6 x7 x8 w) (hI : B ≤ P) (h1 : H ≠ P) (h3 : R ≠ P) : BodyAt B H P R w0 cs v0 v1 v2 u x5 x6 x7 x8 (w.setCell ⟨P, 3, none⟩ u) :=
  ⟨(h.set hI h1 h3).1, (h.set hI h1 h3).2.1, setk_heap h.hp u, (h.set hI h1 h3).2.2⟩
end

def O0 (B : Nat) (w : World) (v : Value) (k : List PIns) : Prop := w.ownsRow B 33 3 v k.length (pinsCells k)
def O1 (B : Nat) (w : World) (v : Value) (vs : List Value) (k : List (List UInt8)) : Prop := w.ownsRow B 35 1 v vs.length vs ∧ OwnMs B w vs k
def O2 (B : Nat) (w : World) (v : Value) (vs : List Value) (k : List (List PStop)) : Prop := w.ownsRow B 36 1 v vs.length vs ∧ OwnRs B w vs k
def O3 (B : Nat) (w : World) (v : Value) (vs : List Value) (k : List PSpec) : Prop := w.ownsRow B 39 3 v k.length (specCells k vs) ∧ OwnSs B w vs k
/-- rows of other types stand -/
def TR (w w' : World) (ex : TypeId) : Prop := ∀ (B : Nat) (e : TypeId) (size : Nat) (v : Value) (n : Nat) (xs : List Value), e ≠ ex → w.ownsRow B e size v n xs → w'.ownsRow B e size v n xs
theorem TR.call {w w' : World} (hb : Below w.heap.size w w') : TR w w' 28 := fun _ _ _ _ _ _ _ ho => ownsRow_old ho hb
theorem TR.app {w w' : World} {B : Nat} {e : TypeId} {size : Nat} {v : Value} {n : Nat} {xs : List Value} {o : Obj} (h : w.ownsRow B e size v n xs) (hg : (w.alloc o).grownBy w' v.ownBlock) : TR w w' e := fun _ _ _ _ _ _ hne ho => mown_other ho h hne hg
theorem TR.set {w : World} {P k : Nat} {cs : Array Value} {fz : Nat × Nat} {u : Value} (h : w.heap[P]? = some (.cells cs 28 fz)) : TR w (w.setCell ⟨P, k, none⟩ u) 28 := fun _ _ _ _ _ _ hne ho => own_set h ho (fun h => hne h.symm) _ _
theorem O0.tr {B : Nat} {w w' : World} {v : Value} {k : List PIns} {ex : TypeId} (h : O0 B w v k) (t : TR w w' ex) (h1 : 33 ≠ ex) : O0 B w' v k := t _ _ _ _ _ _ h1 h
theorem O1.tr {B : Nat} {w w' : World} {v : Value} {vs : List Value} {k : List (List UInt8)} {ex : TypeId} (h : O1 B w v vs k) (t : TR w w' ex) (h1 : 35 ≠ ex) (h2 : 5 ≠ ex) : O1 B w' v vs k := ⟨t _ _ _ _ _ _ h1 h.1, h.2.map fun _ _ ho => t _ _ _ _ _ _ h2 ho⟩
theorem O2.tr {B : Nat} {w w' : World} {v : Value} {vs : List Value} {k : List (List PStop)} {ex : TypeId} (h : O2 B w v vs k) (t : TR w w' ex) (h1 : 36 ≠ ex) (h2 : 64 ≠ ex) : O2 B w' v vs k := ⟨t _ _ _ _ _ _ h1 h.1, h.2.map fun _ _ ho => t _ _ _ _ _ _ h2 ho⟩
theorem O3.tr {B : Nat} {w w' : World} {v : Value} {vs : List Value} {k : List PSpec} {ex : TypeId} (h : O3 B w v vs k) (t : TR w w' ex) (h1 : 39 ≠ ex) (h2 : 3 ≠ ex) : O3 B w' v vs k := ⟨t _ _ _ _ _ _ h1 h.1, h.2.map fun _ _ ho => t _ _ _ _ _ _ h2 ho⟩

def RBodyOut (bs : List UInt8) (p c0 c1 c2 c3 c4 c5 c6 x8 : Nat) (w : World) (e : Ending) (w' : World) : Prop :=
  ∃ (v0 v1 v2 v3 : Value) (vs1 vs2 vs3 : List Value) (k0 : List PIns) (k1 : List (List UInt8)) (k2 : List (List PStop)) (k3 : List PSpec) (q : Nat) (atI : Int) (ok : Bool), e = .returned (.tuple #[.agg #[v0, v1, v2, v3, .int .i64 c4, .int .i64 c5, .int .i64 c6, .int .i64 x8], .int .i64 atI, .bool ok]) ∧ Below w.heap.size w w' ∧
    w'.ownsRow w.heap.size 33 3 v0 k0.length (pinsCells k0) ∧ (w'.ownsRow w.heap.size 35 1 v1 vs1.length vs1 ∧ OwnMs w.heap.size w' vs1 k1) ∧ (w'.ownsRow w.heap.size 36 1 v2 vs2.length vs2 ∧ OwnRs w.heap.size w' vs2 k2) ∧ (w'.ownsRow w.heap.size 39 3 v3 k3.length (specCells k3 vs3) ∧ OwnSs w.heap.size w' vs3 k3) ∧
    (ok = true → atI = (q : Int) ∧ q ≤ bs.length) ∧ Step false (bodyR c0 c1 c2 c3 c4 c5 c6 x8 (bs.drop p)) (!ok) ⟨k0, k1, k2, k3, c4, c5, c6, x8⟩ (bs.drop q)

set_option maxRecDepth 100000 in
set_option maxHeartbeats 8000000 in
theorem rbody (a : Option Addr) (n c p c0 c1 c2 c3 c4 c5 c6 x8 : Nat) (pI : Int) (bs : List UInt8) (w : World) (hA : BsA w a bs) (hn : bs.length = n) (hcl : n ≤ c) (hnil : a = none → c = 0) (hp : p ≤ n) (hpI : (p : Int) = pI) (hb : n ≤ 140737488355328) (hc : c0 ≤ 65535 ∧ c1 ≤ 65535 ∧ c2 ≤ 65535 ∧ c3 ≤ 65535) :
    Calls Tryd.prog 55 #[.slice a n c, .int .i64 pI, .agg #[.int .i64 c0, .int .i64 c1, .int .i64 c2, .int .i64 c3, .int .i64 c4, .int .i64 c5, .int .i64 c6], .agg #[.slice none 0 0, .slice none 0 0, .slice none 0 0, .slice none 0 0, .int .i64 c4, .int .i64 c5, .int .i64 c6, .int .i64 x8]] w (RBodyOut bs p c0 c1 c2 c3 c4 c5 c6 x8 w) := by
  obtain ⟨hc0, hc1, hc2, hc3⟩ := hc
  obtain ⟨B, hB⟩ : ∃ B, w.heap.size = B := ⟨_, rfl⟩
  obtain ⟨H, hH⟩ : ∃ H, B = H := ⟨_, rfl⟩
  obtain ⟨P, hP⟩ : ∃ P, H + 1 = P := ⟨_, rfl⟩
  obtain ⟨R, hR⟩ : ∃ R, P + 1 = R := ⟨_, rfl⟩
  obtain ⟨wa, hwa⟩ : ∃ wa, w.alloc (.cells #[.int .i64 c0, .int .i64 c1, .int .i64 c2, .int .i64 c3, .int .i64 c4, .int .i64 c5, .int .i64 c6] 105) = wa := ⟨_, rfl⟩
  obtain ⟨wb, hwb⟩ : ∃ wb, wa.alloc (.cells #[.slice none 0 0, .slice none 0 0, .slice none 0 0, .slice none 0 0, .int .i64 c4, .int .i64 c5, .int .i64 c6, .int .i64 x8] 28) = wb := ⟨_, rfl⟩
  obtain ⟨w1, hw1⟩ : ∃ w1, wb.alloc (.cells #[.slice none 0 0, .slice none 0 0, .slice none 0 0, .slice none 0 0, .int .i64 0, .int .i64 0, .int .i64 0, .int .i64 0] 28) = w1 := ⟨_, rfl⟩
  have hsa : wa.heap.size = P := by rw [← hwa, World.size_alloc]; omega
  have hsb : wb.heap.size = R := by rw [← hwb, World.size_alloc, hsa]; omega
  have hs1 : w1.heap.size = R + 1 := by rw [← hw1, World.size_alloc, hsb]
  have hba : Below w.heap.size w wa := by rw [← hwa]; exact (Below.refl _ _).alloc (Nat.le_refl _) _
  have hbb : Below wa.heap.size wa wb := by rw [← hwb]; exact (Below.refl _ _).alloc (Nat.le_refl _) _
  have hbc : Below wb.heap.size wb w1 := by rw [← hw1]; exact (Below.refl _ _).alloc (Nat.le_refl _) _
  have hB1 : BodyAt B H P R w #[.int .i64 c0, .int .i64 c1, .int .i64 c2, .int .i64 c3, .int .i64 c4, .int .i64 c5, .int .i64 c6] (.slice none 0 0) (.slice none 0 0) (.slice none 0 0) (.slice none 0 0) (.int .i64 c4) (.int .i64 c5) (.int .i64 c6) (.int .i64 x8) w1 := by
    refine ⟨?_, ?_, ?_, ?_⟩
    · rw [← hB]; exact (hba.trans (hbb.mono (by omega))).trans (hbc.mono (by omega))
    · rw [hbc.block H (by omega), hbb.block H (by omega), ← hwa, ← hH, ← hB]; exact heap_new _ _
    · rw [hbc.block P (by omega), ← hwb, ← hsa]; exact heap_new _ _
    · unfold ZeroAt; rw [← hw1, ← hsb]; exact heap_new _ _
  have hHP : H ≠ P := by omega
  have hRP : R ≠ P := by omega
  have hBP : B ≤ P := by omega
  have hHR : H ≤ R := by omega
  have hPR : P ≤ R := by omega
  have hBH : B ≤ H := by omega
  have hw1l : R < w1.heap.size := by omega
  have HA := Lib.hid hA
  have HN := Lib.hid hn
  have HNIL := Lib.hid hnil
  have HBA := Lib.hid hB1
  have HBE := Lib.hid hB
  have HHE := Lib.hid (show w.heap.size = H by omega)
  have HPE := Lib.hid hP
  have HRE := Lib.hid hR
  have Hwa := Lib.hid hwa
  have Hwb := Lib.hid hwb
  have Hw1 := Lib.hid hw1
  have HAB : Hid (∀ W, Below B w W → BsA W a bs) := Lib.hid (fun W hW => HA.out.below (by rw [HBE.out]; exact hW))
  have HPI := Lib.hid hpI
  clear hA hn hnil hB hH hP hR hwa hwb hw1 hsa hsb hs1 hba hbb hbc hB1 hpI
  go_enter Tryd.func55, Tryd.ntmps55
  go_upto_region 2 with fail
  rw [Hwa.out, HHE.out, HPE.out, HRE.out, Hwb.out, Hw1.out]
  clear Hwa Hwb Hw1
  go_upto_block 0 with fail
  go_cut [1, 11] (fun s1 s11 wx => ∃ (v : Value) (k0 : List PIns) (q : Nat) (atI : Int) (ok : Bool), s1 = .int .i64 atI ∧ s11 = .bool ok ∧ (ok = true → atI = (q : Int) ∧ q ≤ bs.length) ∧ Step false (moreR insR c0 [] (bs.drop p)) (!ok) k0 (bs.drop q) ∧ k0.length ≤ c0 ∧ BodyAt B H P R w #[.int .i64 c0, .int .i64 c1, .int .i64 c2, .int .i64 c3, .int .i64 c4, .int .i64 c5, .int .i64 c6] v (.slice none 0 0) (.slice none 0 0) (.slice none 0 0) (.int .i64 c4) (.int .i64 c5) (.int .i64 c6) (.int .i64 x8) wx ∧ wx.ownsRow B 33 3 v k0.length (pinsCells k0))
  case first =>
    obtain ⟨i0, hi, hz0, hz1, hz2⟩ := info_parts info_pins
    go_wp2_with fail
    go_loopw [1, 11, 12] (fun sa sk ix wr => ∃ (i : Nat) (v : Value) (k0 : List PIns) (q : Nat) (atI : Int) (ok : Bool), i ≤ c0 ∧ ix = .int .i64 i ∧ sa = .int .i64 atI ∧ sk = .bool ok ∧ k0.length = i ∧ (ok = true → atI = (q : Int) ∧ q ≤ bs.length) ∧ LoopS insR c0 (bs.drop p) false i k0 (bs.drop q) (!ok) ∧ BodyAt B H P R w #[.int .i64 c0, .int .i64 c1, .int .i64 c2, .int .i64 c3, .int .i64 c4, .int .i64 c5, .int .i64 c6] v (.slice none 0 0) (.slice none 0 0) (.slice none 0 0) (.int .i64 c4) (.int .i64 c5) (.int .i64 c6) (.int .i64 x8) wr ∧ wr.ownsRow B 33 3 v k0.length (pinsCells k0)) (fun _ _ ix _ => c0 - (intOf ix).toNat)
    case atStart => exact ⟨0, _, [], p, pI, true, by omega, rfl, rfl, rfl, rfl, fun _ => ⟨HPI.out.symm, by have := HN.out; omega⟩, LoopS.start, HBA.out, World.ownsRow_nil _ _ _ _⟩
    case round =>
      obtain ⟨wo, hwo⟩ : ∃ wo : World, wr = wo := ⟨_, rfl⟩
      obtain ⟨i, v, k0, q, atI, ok, hic, rfl, rfl, rfl, hki, hat, hls, hst, hown⟩ := hrel
      rw [hwo] at hst hown ⊢
      clear hwo
      obtain ⟨a9, c9, rfl⟩ := own_slice_n hown
      have h0 : wo.cell? ⟨H, 0, none⟩ = some (.int .i64 c0) := (Lib.cell_of_heap hst.hh _).trans rfl
      have HO := Lib.hid hown
      have HS := Lib.hid hst
      have HL := Lib.hid hls
      have HKI := Lib.hid hki
      have HAT := Lib.hid hat
      have hRl : R < wo.heap.size := (Array.getElem?_eq_some_iff.1 hst.hr).1
      clear hown hst hls hki hat
      by_cases hlt : i < c0
      · cases ok
        · go_wp2_with fail
          go_meet
          exact ⟨_, k0, q, atI, false, rfl, rfl, fun h => (by cases h), HL.out.stop (Or.inr rfl), by have := HKI.out; omega, HS.out, HO.out⟩
        · obtain ⟨hatq, hql⟩ := HAT.out rfl
          have hq : q ≤ n := by have := HN.out; omega
          have HATQ := Lib.hid hatq
          clear hatq hql
          obtain ⟨w2, I, hw2, hI⟩ : ∃ w2 I, wo.alloc (.cells #[.int .u8 0, .int .i64 0, .int .i64 0] 33) = w2 ∧ wo.heap.size = I := ⟨_, _, rfl, rfl⟩
          have hb2 : Below wo.heap.size wo w2 := by rw [← hw2]; exact (Below.refl _ _).alloc (Nat.le_refl _) _
          have HH2 := Lib.hid (show w2.heap[I]? = some (.cells #[.int .u8 0, .int .i64 0, .int .i64 0] 33 (0, 0)) by rw [← hw2, ← hI]; exact heap_new _ _)
          have hRI : R < I := by omega
          have HLT := Lib.hid (show ∀ g, (Value.slice a9 k0.length c9).ownBlock = some g → g < I from fun g hg => by have := (HO.out.lt g hg).2; omega)
          have HS2 := Lib.hid (HS.out.call (by omega) hb2)
          have HO2 := Lib.hid (ownsRow_old HO.out hb2)
          have HG3 := Lib.hid (rget a n c 1 q atI 1 bs w2 (HAB.out _ HS2.out.below) HN.out (by omega) hq HATQ.out.symm rfl hb)
          have Hw2 := Lib.hid hw2
          have HI := Lib.hid hI
          clear hw2 hI hb2
          go_upto_region 7 with fail
          rw [Hw2.out, HI.out]
          clear Hw2 HI
          go_wp2_with fail
          refine HG3.out.mono ?_
          rintro e w' ⟨⟨x1, q1, at1, ok1, rfl, hx1, hat1, hs1⟩, rfl⟩
          have hx1' : x1 < 256 := hx1
          have hx1w : IntKind.u8.wrap (x1 : Int) = x1 := IntWalk.u8_in _ (by omega)
          have HS1 := Lib.hid hs1
          have HAT1 := Lib.hid hat1
          have f0 := Lib.frozen_of_heap HH2.out 0
          have d0 : w2.cell? ⟨I, 0, none⟩ = some (.int .u8 0) := (Lib.cell_of_heap HH2.out _).trans rfl
          obtain ⟨w3, hw3⟩ : ∃ w3, w2.setCell ⟨I, 0, none⟩ (.int .u8 x1) = w3 := ⟨_, rfl⟩
          have HH3 := Lib.hid (show w3.heap[I]? = some (.cells #[.int .u8 x1, .int .i64 0, .int .i64 0] 33 (0, 0)) by rw [← hw3]; exact set0_heap HH2.out _)
          have HS3 := Lib.hid (show BodyAt B H P R w #[.int .i64 c0, .int .i64 c1, .int .i64 c2, .int .i64 c3, .int .i64 c4, .int .i64 c5, .int .i64 c6] (.slice a9 k0.length c9) (.slice none 0 0) (.slice none 0 0) (.slice none 0 0) (.int .i64 c4) (.int .i64 c5) (.int .i64 c6) (.int .i64 x8) w3 by rw [← hw3]; exact HS2.out.other (by omega) (by omega) (by omega) (by omega))
          have HO3 := Lib.hid (show w3.ownsRow B 33 3 (.slice a9 k0.length c9) k0.length (pinsCells k0) by rw [← hw3]; exact mown_setP HO2.out HLT.out _ _)
          have Hw3 := Lib.hid hw3
          clear hx1 hat1 hs1 HG3 hw3
          go_upto_if 41 with fail
          rw [Hw3.out]
          clear Hw3 f0 d0 hx1w
          go_cut [1, 11] (fun s1 s11 wx => ∃ (x2 q2 : Nat) (at2 : Int) (ok2 : Bool), s1 = .int .i64 at2 ∧ s11 = .bool ok2 ∧ x2 < 4294967296 ∧ (ok2 = true → at2 = (q2 : Int) ∧ q2 ≤ bs.length) ∧ Step (!ok1) (numR 4 (bs.drop q1)) (!ok2) x2 (bs.drop q2) ∧ wx.heap[I]? = some (.cells #[.int .u8 x1, .int .i64 x2, .int .i64 0] 33 (0, 0)) ∧ BodyAt B H P R w #[.int .i64 c0, .int .i64 c1, .int .i64 c2, .int .i64 c3, .int .i64 c4, .int .i64 c5, .int .i64 c6] (.slice a9 k0.length c9) (.slice none 0 0) (.slice none 0 0) (.slice none 0 0) (.int .i64 c4) (.int .i64 c5) (.int .i64 c6) (.int .i64 x8) wx ∧ wx.ownsRow B 33 3 (.slice a9 k0.length c9) k0.length (pinsCells k0))
          case first =>
            cases ok1
            · go_wp2_with fail
              go_meet
              exact ⟨0, 0, at1, false, rfl, rfl, by omega, fun h => (by cases h), Step.offEnd, HH3.out, HS3.out, HO3.out⟩
            · obtain ⟨hatq, hql⟩ := HAT1.out rfl
              have HG4 := Lib.hid (rget a n c 4 q1 at1 4 bs w3 (HAB.out _ HS3.out.below) HN.out (by omega) (by have := HN.out; omega) hatq.symm rfl hb)
              clear hatq hql
              go_wp2_with fail
              refine HG4.out.mono ?_
              rintro e w' ⟨⟨x2, q2, at2, ok2, rfl, hx2, hat2, hs2⟩, rfl⟩
              have hx2' : x2 < 4294967296 := hx2
              have HX2 := Lib.hid hs2
              have HAT2 := Lib.hid hat2
              have f1 := Lib.frozen_of_heap HH3.out 1
              have d1 : w3.cell? ⟨I, 1, none⟩ = some (.int .i64 0) := (Lib.cell_of_heap HH3.out _).trans rfl
              clear hx2 hat2 hs2 HG4
              go_wp2_with fail
              go_meet
              exact ⟨x2, q2, at2, ok2, rfl, rfl, hx2', HAT2.out, HX2.out, set1_heap HH3.out _, HS3.out.other (by omega) (by omega) (by omega) (by omega), mown_setP HO3.out HLT.out _ _⟩
          case rest =>
            obtain ⟨x2, q2, at2, ok2, rfl, rfl, hx2, hat2, hs2, hh4, hst4, hown4⟩ := hcut
            obtain ⟨w4, hw4⟩ : ∃ w4 : World, wc = w4 := ⟨_, rfl⟩
            rw [hw4] at hh4 hst4 hown4 ⊢
            clear hw4
            have HX2 := Lib.hid hs2
            have HAT2 := Lib.hid hat2
            have HH4 := Lib.hid hh4
            have HS4 := Lib.hid hst4
            have HO4 := Lib.hid hown4
            obtain ⟨hg1, hg2⟩ := sgn_bd x2 hx2
            obtain ⟨s2, hs2e⟩ : ∃ s2, sgn32 x2 = s2 := ⟨_, rfl⟩
            have HSE := Lib.hid hs2e
            have e1 : w4.cell? ⟨I, 1, none⟩ = some (.int .i64 x2) := (Lib.cell_of_heap hh4 _).trans rfl
            have f1 := Lib.frozen_of_heap hh4 1
            clear hs2 hat2 hh4 hst4 hown4
            obtain ⟨kb, hkb⟩ : ∃ kb, decide ((2147483648 : Int) ≤ (x2 : Int)) = kb := ⟨_, rfl⟩
            have HX2B := Lib.hid hx2
            clear hs2e hg1 hg2 hx2
            go_upto_if 52 with fail
            have HKB := Lib.hid hkb
            clear hkb
            go_cut [] (fun wx => wx.heap[I]? = some (.cells #[.int .u8 x1, .int .i64 s2, .int .i64 0] 33 (0, 0)) ∧ BodyAt B H P R w #[.int .i64 c0, .int .i64 c1, .int .i64 c2, .int .i64 c3, .int .i64 c4, .int .i64 c5, .int .i64 c6] (.slice a9 k0.length c9) (.slice none 0 0) (.slice none 0 0) (.slice none 0 0) (.int .i64 c4) (.int .i64 c5) (.int .i64 c6) (.int .i64 x8) wx ∧ wx.ownsRow B 33 3 (.slice a9 k0.length c9) k0.length (pinsCells k0))
            case first =>
              cases kb
              · have hs : (x2 : Int) < 2147483648 := by have := HKB.out; rw [decide_eq_false_iff_not] at this; omega
                have HSE2 := Lib.hid (show (x2 : Int) = s2 by rw [← HSE.out]; unfold sgn32; rw [if_pos (by omega)])
                clear hs
                go_wp2_with fail
                go_meet
                exact ⟨by rw [← HSE2.out]; exact HH4.out, HS4.out, HO4.out⟩
              · have hs : (2147483648 : Int) ≤ (x2 : Int) := by have := HKB.out; rw [decide_eq_true_iff] at this; omega
                have HSE2 := Lib.hid (show (x2 : Int) - 4294967296 = s2 by rw [← HSE.out]; unfold sgn32; rw [if_neg (by omega)])
                have hwr : IntKind.i64.wrap ((x2 : Int) - 4294967296) = (x2 : Int) - 4294967296 := IntWalk.i64_in _ (by have := HX2B.out; omega)
                clear hs
                go_wp2_with fail
                go_meet
                exact ⟨by rw [← HSE2.out]; exact set1_heap HH4.out _, HS4.out.other (by omega) (by omega) (by omega) (by omega), mown_setP HO4.out HLT.out _ _⟩
            case rest =>
              obtain ⟨hh5, hst5, hown5⟩ := hcut
              clear e1 f1
              obtain ⟨w5, hw5⟩ : ∃ w5 : World, wc = w5 := ⟨_, rfl⟩
              rw [hw5] at hh5 hst5 hown5 ⊢
              clear hw5
              have HH5 := Lib.hid hh5
              have HS5 := Lib.hid hst5
              have HO5 := Lib.hid hown5
              clear hh5 hst5 hown5
              go_upto_if 57 with fail
              go_cut [1, 11] (fun s1 s11 wx => ∃ (x3 q3 : Nat) (at3 : Int) (ok3 : Bool), s1 = .int .i64 at3 ∧ s11 = .bool ok3 ∧ (ok3 = true → at3 = (q3 : Int) ∧ q3 ≤ bs.length) ∧ Step (!ok2) (numR 2 (bs.drop q2)) (!ok3) x3 (bs.drop q3) ∧ wx.heap[I]? = some (.cells #[.int .u8 x1, .int .i64 s2, .int .i64 x3] 33 (0, 0)) ∧ BodyAt B H P R w #[.int .i64 c0, .int .i64 c1, .int .i64 c2, .int .i64 c3, .int .i64 c4, .int .i64 c5, .int .i64 c6] (.slice a9 k0.length c9) (.slice none 0 0) (.slice none 0 0) (.slice none 0 0) (.int .i64 c4) (.int .i64 c5) (.int .i64 c6) (.int .i64 x8) wx ∧ wx.ownsRow B 33 3 (.slice a9 k0.length c9) k0.length (pinsCells k0))
              case first =>
                cases ok2
                · go_wp2_with fail
                  go_meet
                  exact ⟨0, 0, at2, false, rfl, rfl, fun h => (by cases h), Step.offEnd, HH5.out, HS5.out, HO5.out⟩
                · obtain ⟨hatq, hql⟩ := HAT2.out rfl
                  have HG5 := Lib.hid (rget a n c 2 q2 at2 2 bs w5 (HAB.out _ HS5.out.below) HN.out (by omega) (by have := HN.out; omega) hatq.symm rfl hb)
                  clear hatq hql
                  go_wp2_with fail
                  refine HG5.out.mono ?_
                  rintro e w' ⟨⟨x3, q3, at3, ok3, rfl, hx3, hat3, hs3⟩, rfl⟩
                  have HX3 := Lib.hid hs3
                  have HAT3 := Lib.hid hat3
                  have f2 := Lib.frozen_of_heap HH5.out 2
                  have d2 : w5.cell? ⟨I, 2, none⟩ = some (.int .i64 0) := (Lib.cell_of_heap HH5.out _).trans rfl
                  clear hx3 hat3 hs3 HG5
                  go_wp2_with fail
                  go_meet
                  exact ⟨x3, q3, at3, ok3, rfl, rfl, HAT3.out, HX3.out, set2_heap HH5.out _, HS5.out.other (by omega) (by omega) (by omega) (by omega), mown_setP HO5.out HLT.out _ _⟩
              case rest =>
                obtain ⟨x3, q3, at3, ok3, rfl, rfl, hat3, hs3, hh6, hst6, hown6⟩ := hcut
                obtain ⟨w6, hw6⟩ : ∃ w6 : World, wc = w6 := ⟨_, rfl⟩
                rw [hw6] at hh6 hst6 hown6 ⊢
                clear hw6
                have HX3 := Lib.hid hs3
                have HAT3 := Lib.hid hat3
                have HS6 := Lib.hid hst6
                have HO6 := Lib.hid hown6
                have l0 : w6.cell? ⟨I, 0, none⟩ = some (.int .u8 x1) := (Lib.cell_of_heap hh6 _).trans rfl
                have l1 : w6.cell? ⟨I, 1, none⟩ = some (.int .i64 s2) := (Lib.cell_of_heap hh6 _).trans rfl
                have l2 : w6.cell? ⟨I, 2, none⟩ = some (.int .i64 x3) := (Lib.cell_of_heap hh6 _).trans rfl
                have p0 : w6.cell? ⟨P, 0, none⟩ = some (.slice a9 k0.length c9) := (Lib.cell_of_heap hst6.hp _).trans rfl
                have hkl : k0.length ≤ 65535 := by have := HKI.out; omega
                have hB6 : B ≤ w6.heap.size := by have := (Array.getElem?_eq_some_iff.1 hst6.hr).1; omega
                clear hat3 hs3 hst6 hown6
                go_wp2_with (first | (at_builtin; refine wpList_append_own _ rfl (.tmp 67) (.tmp 69) 23 rfl B 33 i0 (.agg #[.int .u8 0, .int .i64 0, .int .i64 0]) 3 24 Tryd.underlying23 hi hz0 hz1 hz2 rfl (by decide) _ k0.length _ rfl (HO6.out.alloc _) ⟨w6.heap.size, 0, none⟩ 1 1 [.int .u8 _, .int .i64 _, .int .i64 _] rfl rfl (mcells_new _ [_, _, _] _) (pins_one _ _ _) (by unfold maxLen; omega) (by omega) (mle_alloc hB6 _) ?_; intro v9 w9 hown9 hgrow9 _; obtain ⟨a8, n8, c8, rfl⟩ := own_slice hown9; have hs9 := HS6.out.app hB6 HO6.out (by decide) (by decide) hgrow9; have p19 : w9.cell? ⟨P, 0, none⟩ = some (.slice a9 k0.length c9) := (Lib.cell_of_heap hs9.hp _).trans rfl; have f19 := Lib.frozen_of_heap hs9.hp 0; have HS9 := Lib.hid hs9; have HO9 := Lib.hid hown9; clear hgrow9 hown9 hs9))
                go_roundw
                case rel => exact ⟨i + 1, _, k0 ++ [⟨x1, s2, x3⟩], q3, at3, ok3, by omega, by go_num, rfl, rfl, by rw [List.length_append, HKI.out]; rfl, HAT3.out, HL.out.step hlt (by rw [← HSE.out]; exact Step.ins HS1.out HX2.out HX3.out), HS9.out.set0 _ hBP hHP hRP, own_set HS9.out.hp (mown_cast HO9.out (by simp) (by rw [pinsCells_snoc]; rfl)) (by decide) _ _⟩
                case measure => simp [intOf]; omega
      · go_wp2_with fail
        go_meet
        exact ⟨_, k0, q, atI, ok, rfl, rfl, HAT.out, HL.out.stop (Or.inl (by omega)), by have := HKI.out; omega, HS.out, HO.out⟩
  case rest =>
    obtain ⟨v, k0, q1, at1, ok1, rfl, rfl, hat1, hs1, hk0, hst1, ho0⟩ := hcut
    obtain ⟨z1, hz1⟩ : ∃ z : World, wc = z := ⟨_, rfl⟩
    rw [hz1] at hst1 ho0 ⊢
    clear hz1
    obtain ⟨a0, d0, rfl⟩ := own_slice_n ho0
    have K0 := Lib.hid (show O0 B z1 (.slice a0 k0.length d0) k0 from ho0)
    have HST1 := Lib.hid hst1
    have HX1 := Lib.hid hs1
    have HAT1 := Lib.hid hat1
    clear hst1 hs1 hat1 ho0
    obtain ⟨i0, hi, hz0, hz1, hz2⟩ := info_parts info_slu8
    go_upto_block 2 with fail
    go_cut [1, 11] (fun s1 s11 wx => ∃ (v : Value) (vs : List Value) (k : List (List UInt8)) (q : Nat) (atI : Int) (ok : Bool), s1 = .int .i64 atI ∧ s11 = .bool ok ∧ (ok = true → atI = (q : Int) ∧ q ≤ bs.length) ∧ Step (!ok1) (moreR msgR c1 [] (bs.drop q1)) (!ok) k (bs.drop q) ∧ BodyAt B H P R w #[.int .i64 c0, .int .i64 c1, .int .i64 c2, .int .i64 c3, .int .i64 c4, .int .i64 c5, .int .i64 c6] (.slice a0 k0.length d0) v (.slice none 0 0) (.slice none 0 0) (.int .i64 c4) (.int .i64 c5) (.int .i64 c6) (.int .i64 x8) wx ∧ O0 B wx (.slice a0 k0.length d0) k0 ∧ O1 B wx v vs k)
    case first =>
      go_wp2_with fail
      go_loopw [1, 11, 15] (fun sa sk ix wr => ∃ (i : Nat) (v : Value) (vs : List Value) (k : List (List UInt8)) (q : Nat) (atI : Int) (ok : Bool), i ≤ c1 ∧ ix = .int .i64 i ∧ sa = .int .i64 atI ∧ sk = .bool ok ∧ k.length = i ∧ (ok = true → atI = (q : Int) ∧ q ≤ bs.length) ∧ LoopS msgR c1 (bs.drop q1) (!ok1) i k (bs.drop q) (!ok) ∧ BodyAt B H P R w #[.int .i64 c0, .int .i64 c1, .int .i64 c2, .int .i64 c3, .int .i64 c4, .int .i64 c5, .int .i64 c6] (.slice a0 k0.length d0) v (.slice none 0 0) (.slice none 0 0) (.int .i64 c4) (.int .i64 c5) (.int .i64 c6) (.int .i64 x8) wr ∧ O0 B wr (.slice a0 k0.length d0) k0 ∧ O1 B wr v vs k) (fun _ _ ix _ => c1 - (intOf ix).toNat)
      case atStart => exact ⟨0, _, [], [], q1, at1, ok1, by omega, rfl, rfl, rfl, rfl, HAT1.out, LoopS.start, HST1.out, K0.out, ⟨World.ownsRow_nil _ _ _ _, OwnR.nil _ _⟩⟩
      case round =>
        obtain ⟨wo, hwo⟩ : ∃ wo : World, wr = wo := ⟨_, rfl⟩
        obtain ⟨i, v, vs, k, q, atI, ok, hic, rfl, rfl, rfl, hki, hat, hls, hst, ho0, ho1⟩ := hrel
        rw [hwo] at hst ho0 ho1 ⊢
        clear hwo
        obtain ⟨a9, c9, rfl⟩ := own_slice_n ho1.1
        have h0 : wo.cell? ⟨H, 1, none⟩ = some (.int .i64 c1) := (Lib.cell_of_heap hst.hh _).trans rfl
        have KK0 := Lib.hid ho0
        have KK1 := Lib.hid ho1
        have HS := Lib.hid hst
        have HL := Lib.hid hls
        have HKI := Lib.hid hki
        have HAT := Lib.hid hat
        have hRl : R < wo.heap.size := (Array.getElem?_eq_some_iff.1 hst.hr).1
        have hBo : B ≤ wo.heap.size := by omega
        clear ho0 ho1 hst hls hki hat
        by_cases hlt : i < c1
        · cases ok
          · go_wp2_with fail
            go_meet
            exact ⟨_, vs, k, q, atI, false, rfl, rfl, fun h => (by cases h), HL.out.stop (Or.inr rfl), HS.out, KK0.out, KK1.out⟩
          · obtain ⟨hatq, hql⟩ := HAT.out rfl
            have hq : q ≤ n := by have := HN.out; omega
            have HATQ := Lib.hid hatq
            clear hatq hql
            have HG2 := Lib.hid (rget a n c 2 q atI 2 bs wo (HAB.out _ HS.out.below) HN.out (by omega) hq HATQ.out.symm rfl hb)
            go_wp2_with fail
            refine HG2.out.mono ?_
            rintro e w' ⟨⟨x2, q2, at2, ok2, rfl, hx2, hat2, hs2⟩, rfl⟩
            have hx2' : x2 < 65536 := hx2
            have HX2 := Lib.hid hs2
            have HAT2 := Lib.hid hat2
            clear hx2 hat2 hs2 HG2
            go_upto_if 88 with fail
            go_cut [1, 11, 17] (fun s1 s11 s17 wx => ∃ (v4 : Value) (m4 : List UInt8) (q4 : Nat) (at4 : Int) (ok4 : Bool), s1 = .int .i64 at4 ∧ s11 = .bool ok4 ∧ s17 = v4 ∧ (ok4 = true → at4 = (q4 : Int) ∧ q4 ≤ bs.length) ∧ Step (!ok2) (takeR x2 (bs.drop q2)) (!ok4) m4 (bs.drop q4) ∧ Below wo.heap.size wo wx ∧ wx.ownsRow wo.heap.size 5 1 v4 m4.length (Lib.byteCells m4))
            case first =>
              cases ok2
              · go_wp2_with fail
                go_meet
                exact ⟨_, [], 0, at2, false, rfl, rfl, rfl, fun h => (by cases h), Step.offEnd, Below.refl _ _, World.ownsRow_nil _ _ _ _⟩
              · obtain ⟨hatq, hql⟩ := HAT2.out rfl
                have HG4 := Lib.hid (rtext a n c x2 q2 at2 bs wo (HAB.out _ HS.out.below) HN.out hcl HNIL.out (by have := HN.out; omega) hatq.symm hb (by omega))
                clear hatq hql
                go_wp2_with fail
                refine HG4.out.mono ?_
                rintro e w4 ⟨v4, m4, q4, at4, ok4, rfl, ho4, hb4, hat4, hs4⟩
                have HO4 := Lib.hid ho4
                have HBM := Lib.hid hb4
                have HX4 := Lib.hid hs4
                have HAT4 := Lib.hid hat4
                clear ho4 hb4 hat4 hs4 HG4
                go_wp2_with fail
                go_meet
                exact ⟨v4, m4, q4, at4, ok4, rfl, rfl, rfl, HAT4.out, HX4.out, HBM.out, HO4.out⟩
            case rest =>
              obtain ⟨v4, m4, q4, at4, ok4, rfl, rfl, rfl, hat4, hs4, hb4, ho4⟩ := hcut
              obtain ⟨wm, hwm⟩ : ∃ z : World, wc = z := ⟨_, rfl⟩
              rw [hwm] at hb4 ho4 ⊢
              clear hwm
              have one4 := Lib.hid (sl_one ho4)
              obtain ⟨a4, e4, rfl⟩ := own_slice_n ho4
              have HO4 := Lib.hid ho4
              have HBM := Lib.hid hb4
              have HX4 := Lib.hid hs4
              have HAT4 := Lib.hid hat4
              clear ho4 hb4 hat4 hs4
              have HSM := Lib.hid (HS.out.call hBo HBM.out)
              have HOM := Lib.hid (KK1.out.tr (TR.call HBM.out) (by decide) (by decide))
              have p0 : wm.cell? ⟨P, 1, none⟩ = some (.slice a9 vs.length c9) := (Lib.cell_of_heap HSM.out.hp _).trans rfl
              have hkl : vs.length ≤ 65535 := by have := KK1.out.2.len; have := HKI.out; omega
              have hBm : B ≤ wm.heap.size := by have := HBM.out.size; omega
              go_wp2_with (first | (at_builtin; refine wpList_append_own _ rfl (.tmp 98) (.tmp 100) 24 rfl B 35 i0 (.slice none 0 0) 1 24 Tryd.underlying24 hi hz0 hz1 hz2 rfl (by decide) _ (vs.length) _ rfl (HOM.out.1.alloc _) ⟨wm.heap.size, 0, none⟩ 1 1 [.slice a4 m4.length e4] rfl rfl (mcells_new _ [_] _) one4.out (by unfold maxLen; omega) (by omega) (mle_alloc hBm _) ?_; intro v9 w9 hown9 hgrow9 _; obtain ⟨a8, n8, c8, rfl⟩ := own_slice hown9; have hs9 := HSM.out.app hBm HOM.out.1 (by decide) (by decide) hgrow9; have p19 : w9.cell? ⟨P, 1, none⟩ = some (.slice a9 vs.length c9) := (Lib.cell_of_heap hs9.hp _).trans rfl; have f19 := Lib.frozen_of_heap hs9.hp 1; have HS9 := Lib.hid hs9; have HO9 := Lib.hid hown9; have HG9 := Lib.hid hgrow9; clear hgrow9 hown9 hs9))
              go_roundw
              case rel => exact ⟨i + 1, _, vs ++ [.slice a4 m4.length e4], k ++ [m4], q4, at4, ok4, by omega, by go_num, rfl, rfl, by rw [List.length_append, HKI.out]; rfl, HAT4.out, HL.out.step hlt (Step.msg HX2.out HX4.out), HS9.out.set1 _ hBP hHP hRP, ((KK0.out.tr (TR.call HBM.out) (by decide)).tr (TR.app HOM.out.1 HG9.out) (by decide)).tr (TR.set HS9.out.hp) (by decide), ⟨own_set HS9.out.hp (mown_cast HO9.out (by simp) rfl) (by decide) _ _, ((OwnR.snoc (m := m4) KK1.out.2 (fun v m ho => ownsRow_old ho HBM.out) HO4.out hBo (Nat.le_refl _)).map fun v m ho => mown_other ho HOM.out.1 (by decide) HG9.out).map fun v m ho => own_set HS9.out.hp ho (by decide) _ _⟩⟩
              case measure => simp [intOf]; omega
        · go_wp2_with fail
          go_meet
          exact ⟨_, vs, k, q, atI, ok, rfl, rfl, HAT.out, HL.out.stop (Or.inl (by omega)), HS.out, KK0.out, KK1.out⟩
    case rest =>
      obtain ⟨v, vs1, k1, q2, at2, ok2, rfl, rfl, hat2, hs2, hst2, ho0, ho1⟩ := hcut
      obtain ⟨z2, hz2'⟩ : ∃ z : World, wc = z := ⟨_, rfl⟩
      rw [hz2'] at hst2 ho0 ho1 ⊢
      clear hz2' K0 i0 hi hz0 hz1 hz2
      obtain ⟨aa1, d1, rfl⟩ := own_slice_n ho1.1
      have K0 := Lib.hid ho0
      have K1 := Lib.hid ho1
      have HST2 := Lib.hid hst2
      have HX2 := Lib.hid hs2
      have HAT2 := Lib.hid hat2
      clear hst2 hs2 hat2 ho0 ho1
      obtain ⟨i0, hi, hz0, hz1, hz2⟩ := info_parts info_slstop
      go_upto_block 4 with fail
      go_cut [1, 11] (fun s1 s11 wx => ∃ (v : Value) (vs : List Value) (k : List (List PStop)) (q : Nat) (atI : Int) (ok : Bool), s1 = .int .i64 atI ∧ s11 = .bool ok ∧ (ok = true → atI = (q : Int) ∧ q ≤ bs.length) ∧ Step (!ok2) (moreR routeR c2 [] (bs.drop q2)) (!ok) k (bs.drop q) ∧ BodyAt B H P R w #[.int .i64 c0, .int .i64 c1, .int .i64 c2, .int .i64 c3, .int .i64 c4, .int .i64 c5, .int .i64 c6] (.slice a0 k0.length d0) (.slice aa1 vs1.length d1) v (.slice none 0 0) (.int .i64 c4) (.int .i64 c5) (.int .i64 c6) (.int .i64 x8) wx ∧ O0 B wx (.slice a0 k0.length d0) k0 ∧ O1 B wx (.slice aa1 vs1.length d1) vs1 k1 ∧ O2 B wx v vs k)
      case first =>
        go_wp2_with fail
        go_loopw [1, 11, 18] (fun sa sk ix wr => ∃ (i : Nat) (v : Value) (vs : List Value) (k : List (List PStop)) (q : Nat) (atI : Int) (ok : Bool), i ≤ c2 ∧ ix = .int .i64 i ∧ sa = .int .i64 atI ∧ sk = .bool ok ∧ k.length = i ∧ (ok = true → atI = (q : Int) ∧ q ≤ bs.length) ∧ LoopS routeR c2 (bs.drop q2) (!ok2) i k (bs.drop q) (!ok) ∧ BodyAt B H P R w #[.int .i64 c0, .int .i64 c1, .int .i64 c2, .int .i64 c3, .int .i64 c4, .int .i64 c5, .int .i64 c6] (.slice a0 k0.length d0) (.slice aa1 vs1.length d1) v (.slice none 0 0) (.int .i64 c4) (.int .i64 c5) (.int .i64 c6) (.int .i64 x8) wr ∧ O0 B wr (.slice a0 k0.length d0) k0 ∧ O1 B wr (.slice aa1 vs1.length d1) vs1 k1 ∧ O2 B wr v vs k) (fun _ _ ix _ => c2 - (intOf ix).toNat)
        case atStart => exact ⟨0, _, [], [], q2, at2, ok2, by omega, rfl, rfl, rfl, rfl, HAT2.out, LoopS.start, HST2.out, K0.out, K1.out, ⟨World.ownsRow_nil _ _ _ _, OwnR.nil _ _⟩⟩
        case round =>
          obtain ⟨wo, hwo⟩ : ∃ wo : World, wr = wo := ⟨_, rfl⟩
          obtain ⟨i, v, vs, k, q, atI, ok, hic, rfl, rfl, rfl, hki, hat, hls, hst, ho0, ho1, ho2⟩ := hrel
          rw [hwo] at hst ho0 ho1 ho2 ⊢
          clear hwo
          obtain ⟨a9, c9, rfl⟩ := own_slice_n ho2.1
          have h0 : wo.cell? ⟨H, 2, none⟩ = some (.int .i64 c2) := (Lib.cell_of_heap hst.hh _).trans rfl
          have KK0 := Lib.hid ho0
          have KK1 := Lib.hid ho1
          have KK2 := Lib.hid ho2
          have HS := Lib.hid hst
          have HL := Lib.hid hls
          have HKI := Lib.hid hki
          have HAT := Lib.hid hat
          have hRl : R < wo.heap.size := (Array.getElem?_eq_some_iff.1 hst.hr).1
          have hBo : B ≤ wo.heap.size := by omega
          clear ho0 ho1 ho2 hst hls hki hat
          by_cases hlt : i < c2
          · cases ok
            · go_wp2_with fail
              go_meet
              exact ⟨_, vs, k, q, atI, false, rfl, rfl, fun h => (by cases h), HL.out.stop (Or.inr rfl), HS.out, KK0.out, KK1.out, KK2.out⟩
            · obtain ⟨hatq, hql⟩ := HAT.out rfl
              have hq : q ≤ n := by have := HN.out; omega
              have HATQ := Lib.hid hatq
              clear hatq hql
              have HG4 := Lib.hid (rstops a n c q atI bs wo (HAB.out _ HS.out.below) HN.out hcl HNIL.out hq HATQ.out.symm hb)
              go_wp2_with fail
              refine HG4.out.mono ?_
              rintro e wm ⟨v4, m4, q4, at4, ok4, rfl, ho4, hb4, hat4, hm4, hs4⟩
              have one4 := Lib.hid (sl_one ho4)
              obtain ⟨a4, e4, rfl⟩ := own_slice_n ho4
              have HO4 := Lib.hid ho4
              have HBM := Lib.hid hb4
              have HX4 := Lib.hid hs4
              have HAT4 := Lib.hid hat4
              clear ho4 hb4 hat4 hs4 HG4
              have HSM := Lib.hid (HS.out.call hBo HBM.out)
              have HOM := Lib.hid (KK2.out.tr (TR.call HBM.out) (by decide) (by decide))
              have p0 : wm.cell? ⟨P, 2, none⟩ = some (.slice a9 vs.length c9) := (Lib.cell_of_heap HSM.out.hp _).trans rfl
              have hkl : vs.length ≤ 65535 := by have := KK2.out.2.len; have := HKI.out; omega
              have hBm : B ≤ wm.heap.size := by have := HBM.out.size; omega
              go_wp2_with (first | (at_builtin; refine wpList_append_own _ rfl (.tmp 120) (.tmp 122) 25 rfl B 36 i0 (.slice none 0 0) 1 24 Tryd.underlying25 hi hz0 hz1 hz2 rfl (by decide) _ (vs.length) _ rfl (HOM.out.1.alloc _) ⟨wm.heap.size, 0, none⟩ 1 1 [.slice a4 m4.length e4] rfl rfl (mcells_new _ [_] _) one4.out (by unfold maxLen; omega) (by omega) (mle_alloc hBm _) ?_; intro v9 w9 hown9 hgrow9 _; obtain ⟨a8, n8, c8, rfl⟩ := own_slice hown9; have hs9 := HSM.out.app hBm HOM.out.1 (by decide) (by decide) hgrow9; have p19 : w9.cell? ⟨P, 2, none⟩ = some (.slice a9 vs.length c9) := (Lib.cell_of_heap hs9.hp _).trans rfl; have f19 := Lib.frozen_of_heap hs9.hp 2; have HS9 := Lib.hid hs9; have HO9 := Lib.hid hown9; have HG9 := Lib.hid hgrow9; clear hgrow9 hown9 hs9))
              go_roundw
              case rel => exact ⟨i + 1, _, vs ++ [.slice a4 m4.length e4], k ++ [m4], q4, at4, ok4, by omega, by go_num, rfl, rfl, by rw [List.length_append, HKI.out]; rfl, HAT4.out, HL.out.step hlt (HX4.out), HS9.out.set2 _ hBP hHP hRP, ((KK0.out.tr (TR.call HBM.out) (by decide)).tr (TR.app HOM.out.1 HG9.out) (by decide)).tr (TR.set HS9.out.hp) (by decide), ((KK1.out.tr (TR.call HBM.out) (by decide) (by decide)).tr (TR.app HOM.out.1 HG9.out) (by decide) (by decide)).tr (TR.set HS9.out.hp) (by decide) (by decide), ⟨own_set HS9.out.hp (mown_cast HO9.out (by simp) rfl) (by decide) _ _, ((OwnR.snoc (m := m4) KK2.out.2 (fun v m ho => ownsRow_old ho HBM.out) HO4.out hBo (Nat.le_refl _)).map fun v m ho => mown_other ho HOM.out.1 (by decide) HG9.out).map fun v m ho => own_set HS9.out.hp ho (by decide) _ _⟩⟩
              case measure => simp [intOf]; omega
          · go_wp2_with fail
            go_meet
            exact ⟨_, vs, k, q, atI, ok, rfl, rfl, HAT.out, HL.out.stop (Or.inl (by omega)), HS.out, KK0.out, KK1.out, KK2.out⟩
      case rest =>
        obtain ⟨v, vs2, k2, q3, at3, ok3, rfl, rfl, hat3, hs3, hst3, ho0, ho1, ho2⟩ := hcut
        obtain ⟨z3, hz3⟩ : ∃ z : World, wc = z := ⟨_, rfl⟩
        rw [hz3] at hst3 ho0 ho1 ho2 ⊢
        clear hz3 K0 K1 i0 hi hz0 hz1 hz2
        obtain ⟨aa2, d2, rfl⟩ := own_slice_n ho2.1
        have K0 := Lib.hid ho0
        have K1 := Lib.hid ho1
        have K2 := Lib.hid ho2
        have HST3 := Lib.hid hst3
        have HX3 := Lib.hid hs3
        have HAT3 := Lib.hid hat3
        clear hst3 hs3 hat3 ho0 ho1 ho2
        obtain ⟨i0, hi, hz0, hz1, hz2⟩ := info_parts info_spec
        go_upto_block 6 with fail
        go_cut [1, 11] (fun s1 s11 wx => ∃ (v : Value) (vs : List Value) (k : List PSpec) (q : Nat) (atI : Int) (ok : Bool), s1 = .int .i64 atI ∧ s11 = .bool ok ∧ (ok = true → atI = (q : Int) ∧ q ≤ bs.length) ∧ Step (!ok3) (moreR specR c3 [] (bs.drop q3)) (!ok) k (bs.drop q) ∧ BodyAt B H P R w #[.int .i64 c0, .int .i64 c1, .int .i64 c2, .int .i64 c3, .int .i64 c4, .int .i64 c5, .int .i64 c6] (.slice a0 k0.length d0) (.slice aa1 vs1.length d1) (.slice aa2 vs2.length d2) v (.int .i64 c4) (.int .i64 c5) (.int .i64 c6) (.int .i64 x8) wx ∧ O0 B wx (.slice a0 k0.length d0) k0 ∧ O1 B wx (.slice aa1 vs1.length d1) vs1 k1 ∧ O2 B wx (.slice aa2 vs2.length d2) vs2 k2 ∧ O3 B wx v vs k)
        case first =>
          go_wp2_with fail
          go_loopw [1, 11, 20] (fun sa sk ix wr => ∃ (i : Nat) (v : Value) (vs : List Value) (k : List PSpec) (q : Nat) (atI : Int) (ok : Bool), i ≤ c3 ∧ ix = .int .i64 i ∧ sa = .int .i64 atI ∧ sk = .bool ok ∧ k.length = i ∧ (ok = true → atI = (q : Int) ∧ q ≤ bs.length) ∧ LoopS specR c3 (bs.drop q3) (!ok3) i k (bs.drop q) (!ok) ∧ BodyAt B H P R w #[.int .i64 c0, .int .i64 c1, .int .i64 c2, .int .i64 c3, .int .i64 c4, .int .i64 c5, .int .i64 c6] (.slice a0 k0.length d0) (.slice aa1 vs1.length d1) (.slice aa2 vs2.length d2) v (.int .i64 c4) (.int .i64 c5) (.int .i64 c6) (.int .i64 x8) wr ∧ O0 B wr (.slice a0 k0.length d0) k0 ∧ O1 B wr (.slice aa1 vs1.length d1) vs1 k1 ∧ O2 B wr (.slice aa2 vs2.length d2) vs2 k2 ∧ O3 B wr v vs k) (fun _ _ ix _ => c3 - (intOf ix).toNat)
          case atStart => exact ⟨0, _, [], [], q3, at3, ok3, by omega, rfl, rfl, rfl, rfl, HAT3.out, LoopS.start, HST3.out, K0.out, K1.out, K2.out, ⟨World.ownsRow_nil _ _ _ _, OwnR.nil _ _⟩⟩
          case round =>
            obtain ⟨wo, hwo⟩ : ∃ wo : World, wr = wo := ⟨_, rfl⟩
            obtain ⟨i, v, vs, k, q, atI, ok, hic, rfl, rfl, rfl, hki, hat, hls, hst, ho0, ho1, ho2, ho3⟩ := hrel
            rw [hwo] at hst ho0 ho1 ho2 ho3 ⊢
            clear hwo
            obtain ⟨a9, c9, rfl⟩ := own_slice_n ho3.1
            have h0 : wo.cell? ⟨H, 3, none⟩ = some (.int .i64 c3) := (Lib.cell_of_heap hst.hh _).trans rfl
            have KK0 := Lib.hid ho0
            have KK1 := Lib.hid ho1
            have KK2 := Lib.hid ho2
            have KK3 := Lib.hid ho3
            have HS := Lib.hid hst
            have HL := Lib.hid hls
            have HKI := Lib.hid hki
            have HAT := Lib.hid hat
            have hRl : R < wo.heap.size := (Array.getElem?_eq_some_iff.1 hst.hr).1
            have hBo : B ≤ wo.heap.size := by omega
            clear ho0 ho1 ho2 ho3 hst hls hki hat
            by_cases hlt : i < c3
            · cases ok
              · go_wp2_with fail
                go_meet
                exact ⟨_, vs, k, q, atI, false, rfl, rfl, fun h => (by cases h), HL.out.stop (Or.inr rfl), HS.out, KK0.out, KK1.out, KK2.out, KK3.out⟩
              · obtain ⟨hatq, hql⟩ := HAT.out rfl
                have hq : q ≤ n := by have := HN.out; omega
                have HATQ := Lib.hid hatq
                clear hatq hql
                obtain ⟨w2, S, hw2, hS⟩ : ∃ w2 S, wo.alloc (.cells #[.int .i64 0, .slice none 0 0, .int .i64 0] 39) = w2 ∧ wo.heap.size = S := ⟨_, _, rfl, rfl⟩
                have hb2 : Below wo.heap.size wo w2 := by rw [← hw2]; exact (Below.refl _ _).alloc (Nat.le_refl _) _
                have hh2 : w2.heap[S]? = some (.cells #[.int .i64 0, .slice none 0 0, .int .i64 0] 39 (0, 0)) := by rw [← hw2, ← hS]; exact heap_new _ _
                have HH2 := Lib.hid hh2
                have HB2 := Lib.hid hb2
                have HG4 := Lib.hid (rsend a n c q atI bs w2 (HAB.out _ (HS.out.call hBo hb2).below) HN.out hq HATQ.out.symm hb)
                have hS2 : S < w2.heap.size := (Array.getElem?_eq_some_iff.1 hh2).1
                have HW2 := Lib.hid hw2
                have HSE := Lib.hid hS
                clear hw2 hS hb2 hh2
                go_upto_region 35 with fail
                rw [HW2.out, HSE.out]
                clear HW2
                go_wp2_with fail
                refine HG4.out.mono ?_
                rintro e w4 ⟨x4, u4, v4, rs4, q4, at4, ok4, rfl, ho4, hb4, hat4, hs4⟩
                obtain ⟨a4, e4, rfl⟩ := own_slice_n ho4
                have hh4 : w4.heap[S]? = some (.cells #[.int .i64 0, .slice none 0 0, .int .i64 0] 39 (0, 0)) := (hb4.block S hS2).trans HH2.out
                have f40 := Lib.frozen_of_heap hh4 0
                have f41 := Lib.frozen_of_heap hh4 1
                have f42 := Lib.frozen_of_heap hh4 2
                have d40 : w4.cell? ⟨S, 0, none⟩ = some (.int .i64 0) := (Lib.cell_of_heap hh4 _).trans rfl
                have d41 : w4.cell? ⟨S, 1, none⟩ = some (.slice none 0 0) := (Lib.cell_of_heap hh4 _).trans rfl
                have d42 : w4.cell? ⟨S, 2, none⟩ = some (.int .i64 0) := (Lib.cell_of_heap hh4 _).trans rfl
                obtain ⟨wm, hwm⟩ : ∃ z, ((w4.setCell ⟨S, 0, none⟩ (.int .i64 x4)).setCell ⟨S, 1, none⟩ (.slice a4 rs4.length e4)).setCell ⟨S, 2, none⟩ (.int .i64 ((u4 : Int) - 1)) = z := ⟨_, rfl⟩
                have hoS : wo.heap.size ≤ S := by have := HSE.out; omega
                have HSZ := Lib.hid (show B ≤ w2.heap.size ∧ wm.heap.size = wm.heap.size ∧ wo.heap.size ≤ w2.heap.size by have := HB2.out.size; omega)
                have hhm : wm.heap[S]? = some (.cells #[.int .i64 x4, .slice a4 rs4.length e4, .int .i64 ((u4 : Int) - 1)] 39 (0, 0)) := by rw [← hwm]; exact set2_heap (set1_heap (set0_heap hh4 _) _) _
                have HO4 := Lib.hid (show wm.ownsRow w2.heap.size 3 1 (.slice a4 rs4.length e4) rs4.length (intsCells rs4) by rw [← hwm]; exact own_set (set1_heap (set0_heap hh4 _) _) (own_set (set0_heap hh4 _) (own_set hh4 ho4 (by decide) _ _) (by decide) _ _) (by decide) _ _)
                have HBM := Lib.hid (show Below wo.heap.size wo wm by rw [← hwm]; exact (((HB2.out.trans (hb4.mono HB2.out.size)).setCell (p := ⟨S, 0, none⟩) hoS _).setCell (p := ⟨S, 1, none⟩) hoS _).setCell (p := ⟨S, 2, none⟩) hoS _)
                have HX4 := Lib.hid hs4
                have HAT4 := Lib.hid hat4
                have HWM := Lib.hid hwm
                have s0 : wm.cell? ⟨S, 0, none⟩ = some (.int .i64 x4) := (Lib.cell_of_heap hhm _).trans rfl
                have s1 : wm.cell? ⟨S, 1, none⟩ = some (.slice a4 rs4.length e4) := (Lib.cell_of_heap hhm _).trans rfl
                have s2 : wm.cell? ⟨S, 2, none⟩ = some (.int .i64 ((u4 : Int) - 1)) := (Lib.cell_of_heap hhm _).trans rfl
                clear ho4 hb4 hat4 hs4 hh4 hwm hhm HG4
                go_upto_region 36 with fail
                rw [HWM.out]
                clear HWM f40 f41 f42 d40 d41 d42
                have HSM := Lib.hid (HS.out.call hBo HBM.out)
                have HOM := Lib.hid (KK3.out.tr (TR.call HBM.out) (by decide) (by decide))
                have p0 : wm.cell? ⟨P, 3, none⟩ = some (.slice a9 k.length c9) := (Lib.cell_of_heap HSM.out.hp _).trans rfl
                have hkl : k.length ≤ 65535 := by have := HKI.out; omega
                have hBm : B ≤ wm.heap.size := by have := HBM.out.size; omega
                go_wp2_with (first | (at_builtin; refine wpList_append_own _ rfl (.tmp 142) (.tmp 144) 26 rfl B 39 i0 (.agg #[.int .i64 0, .slice none 0 0, .int .i64 0]) 3 40 Tryd.underlying26 hi hz0 hz1 hz2 rfl (by decide) _ (k.length) _ rfl (HOM.out.1.alloc _) ⟨wm.heap.size, 0, none⟩ 1 1 [.int .i64 x4, .slice a4 rs4.length e4, .int .i64 ((u4 : Int) - 1)] rfl rfl (mcells_new _ [_, _, _] _) (spec_one _ _ _ _ _) (by unfold maxLen; omega) (by omega) (mle_alloc hBm _) ?_; intro v9 w9 hown9 hgrow9 _; obtain ⟨a8, n8, c8, rfl⟩ := own_slice hown9; have hs9 := HSM.out.app hBm HOM.out.1 (by decide) (by decide) hgrow9; have p19 : w9.cell? ⟨P, 3, none⟩ = some (.slice a9 k.length c9) := (Lib.cell_of_heap hs9.hp _).trans rfl; have f19 := Lib.frozen_of_heap hs9.hp 3; have HS9 := Lib.hid hs9; have HO9 := Lib.hid hown9; have HG9 := Lib.hid hgrow9; clear hgrow9 hown9 hs9))
                go_roundw
                case rel => exact ⟨i + 1, _, vs ++ [.slice a4 rs4.length e4], k ++ [⟨x4, rs4, (u4 : Int) - 1⟩], q4, at4, ok4, by omega, by go_num, rfl, rfl, by rw [List.length_append, HKI.out]; rfl, HAT4.out, HL.out.step hlt (HX4.out), HS9.out.set3 _ hBP hHP hRP, ((KK0.out.tr (TR.call HBM.out) (by decide)).tr (TR.app HOM.out.1 HG9.out) (by decide)).tr (TR.set HS9.out.hp) (by decide), ((KK1.out.tr (TR.call HBM.out) (by decide) (by decide)).tr (TR.app HOM.out.1 HG9.out) (by decide) (by decide)).tr (TR.set HS9.out.hp) (by decide) (by decide), ((KK2.out.tr (TR.call HBM.out) (by decide) (by decide)).tr (TR.app HOM.out.1 HG9.out) (by decide) (by decide)).tr (TR.set HS9.out.hp) (by decide) (by decide), ⟨own_set HS9.out.hp (mown_cast HO9.out (by simp) (by rw [specCells_snoc _ _ _ _ KK3.out.2.len])) (by decide) _ _, ((OwnR.snoc (m := ⟨x4, rs4, (u4 : Int) - 1⟩) KK3.out.2 (fun v m ho => ownsRow_old ho HBM.out) HO4.out (by have := HSZ.out; omega) (by have := HSZ.out; omega)).map fun v m ho => mown_other ho HOM.out.1 (by decide) HG9.out).map fun v m ho => own_set HS9.out.hp ho (by decide) _ _⟩⟩
                case measure => simp [intOf]; omega
            · go_wp2_with fail
              go_meet
              exact ⟨_, vs, k, q, atI, ok, rfl, rfl, HAT.out, HL.out.stop (Or.inl (by omega)), HS.out, KK0.out, KK1.out, KK2.out, KK3.out⟩
        case rest =>
          obtain ⟨v, vs3, k3, q4, at4, ok4, rfl, rfl, hat4, hs4, hst4, ho0, ho1, ho2, ho3⟩ := hcut
          obtain ⟨z4, hz4⟩ : ∃ z : World, wc = z := ⟨_, rfl⟩
          rw [hz4] at hst4 ho0 ho1 ho2 ho3 ⊢
          clear hz4 K0 K1 K2
          obtain ⟨aa3, d3, rfl⟩ := own_slice_n ho3.1
          have K0 := Lib.hid ho0
          have K1 := Lib.hid ho1
          have K2 := Lib.hid ho2
          have K3 := Lib.hid ho3
          have HST4 := Lib.hid hst4
          have HX4 := Lib.hid hs4
          have HAT4 := Lib.hid hat4
          have p0 : z4.cell? ⟨P, 0, none⟩ = some (.slice a0 k0.length d0) := (Lib.cell_of_heap hst4.hp _).trans rfl
          have p1 : z4.cell? ⟨P, 1, none⟩ = some (.slice aa1 vs1.length d1) := (Lib.cell_of_heap hst4.hp _).trans rfl
          have p2 : z4.cell? ⟨P, 2, none⟩ = some (.slice aa2 vs2.length d2) := (Lib.cell_of_heap hst4.hp _).trans rfl
          have p3 : z4.cell? ⟨P, 3, none⟩ = some (.slice aa3 k3.length d3) := (Lib.cell_of_heap hst4.hp _).trans rfl
          have p4 : z4.cell? ⟨P, 4, none⟩ = some (.int .i64 c4) := (Lib.cell_of_heap hst4.hp _).trans rfl
          have p5 : z4.cell? ⟨P, 5, none⟩ = some (.int .i64 c5) := (Lib.cell_of_heap hst4.hp _).trans rfl
          have p6 : z4.cell? ⟨P, 6, none⟩ = some (.int .i64 c6) := (Lib.cell_of_heap hst4.hp _).trans rfl
          have p7 : z4.cell? ⟨P, 7, none⟩ = some (.int .i64 x8) := (Lib.cell_of_heap hst4.hp _).trans rfl
          have r0 : z4.cell? ⟨R, 0, none⟩ = some (.slice none 0 0) := (Lib.cell_of_heap hst4.hr _).trans rfl
          have r1 : z4.cell? ⟨R, 1, none⟩ = some (.slice none 0 0) := (Lib.cell_of_heap hst4.hr _).trans rfl
          have r2 : z4.cell? ⟨R, 2, none⟩ = some (.slice none 0 0) := (Lib.cell_of_heap hst4.hr _).trans rfl
          have r3 : z4.cell? ⟨R, 3, none⟩ = some (.slice none 0 0) := (Lib.cell_of_heap hst4.hr _).trans rfl
          have r4 : z4.cell? ⟨R, 4, none⟩ = some (.int .i64 0) := (Lib.cell_of_heap hst4.hr _).trans rfl
          have r5 : z4.cell? ⟨R, 5, none⟩ = some (.int .i64 0) := (Lib.cell_of_heap hst4.hr _).trans rfl
          have r6 : z4.cell? ⟨R, 6, none⟩ = some (.int .i64 0) := (Lib.cell_of_heap hst4.hr _).trans rfl
          have r7 : z4.cell? ⟨R, 7, none⟩ = some (.int .i64 0) := (Lib.cell_of_heap hst4.hr _).trans rfl
          have f0 := Lib.frozen_of_heap hst4.hr 0
          have f1 := Lib.frozen_of_heap hst4.hr 1
          have f2 := Lib.frozen_of_heap hst4.hr 2
          have f3 := Lib.frozen_of_heap hst4.hr 3
          have f4 := Lib.frozen_of_heap hst4.hr 4
          have f5 := Lib.frozen_of_heap hst4.hr 5
          have f6 := Lib.frozen_of_heap hst4.hr 6
          have f7 := Lib.frozen_of_heap hst4.hr 7
          clear hst4 hs4 hat4 ho0 ho1 ho2 ho3
          go_wp2_with fail
          refine bodyPost_ret (v := .tuple #[.agg #[.slice a0 k0.length d0, .slice aa1 vs1.length d1, .slice aa2 vs2.length d2, .slice aa3 k3.length d3, .int .i64 c4, .int .i64 c5, .int .i64 c6, .int .i64 x8], .int .i64 at4, .bool ok4]) ?_ rfl ?_
          · have hz := set8_heap HST4.out.hr (.slice a0 k0.length d0) (.slice aa1 vs1.length d1) (.slice aa2 vs2.length d2) (.slice aa3 k3.length d3) (.int .i64 c4) (.int .i64 c5) (.int .i64 c6) (.int .i64 x8)
            have y0 := (Lib.cell_of_heap hz 0).trans rfl
            have y1 := (Lib.cell_of_heap hz 1).trans rfl
            have y2 := (Lib.cell_of_heap hz 2).trans rfl
            have y3 := (Lib.cell_of_heap hz 3).trans rfl
            have y4 := (Lib.cell_of_heap hz 4).trans rfl
            have y5 := (Lib.cell_of_heap hz 5).trans rfl
            have y6 := (Lib.cell_of_heap hz 6).trans rfl
            have y7 := (Lib.cell_of_heap hz 7).trans rfl
            simp [results, Tryd.results55, go_sem, y0, y1, y2, y3, y4, y5, y6, y7]
          have hBE := HBE.out
          subst hBE
          have t8 : TR z4 ((((((((z4.setCell ⟨R, 0, none⟩ (.slice a0 k0.length d0)).setCell ⟨R, 1, none⟩ (.slice aa1 vs1.length d1)).setCell ⟨R, 2, none⟩ (.slice aa2 vs2.length d2)).setCell ⟨R, 3, none⟩ (.slice aa3 k3.length d3)).setCell ⟨R, 4, none⟩ (.int .i64 c4)).setCell ⟨R, 5, none⟩ (.int .i64 c5)).setCell ⟨R, 6, none⟩ (.int .i64 c6)).setCell ⟨R, 7, none⟩ (.int .i64 x8)) 28 := fun _ _ _ _ _ _ hne ho => own_set8 HST4.out.hr ho (fun h => hne h.symm) _ _ _ _ _ _ _ _
          exact ⟨_, _, _, _, vs1, vs2, vs3, k0, k1, k2, k3, q4, at4, ok4, rfl, below_setR HST4.out.below (by omega) _ _ _ _ _ _ _ _, K0.out.tr t8 (by decide), K1.out.tr t8 (by decide) (by decide), K2.out.tr t8 (by decide) (by decide), K3.out.tr t8 (by decide) (by decide), HAT4.out, Step.body HX1.out HX2.out HX3.out HX4.out⟩
end Go.Proofs.YtaijdpckkobofaaDoor
