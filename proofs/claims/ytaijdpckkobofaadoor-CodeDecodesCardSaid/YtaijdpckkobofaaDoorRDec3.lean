/- The reference's stops. (wip/gen_rdec3.py) -/
import Derived.Test.YtaijdpckkobofaaDoorRDec2
namespace Go.Proofs.YtaijdpckkobofaaDoor
open Go.RowKit
set_option linter.unusedVariables false

theorem Step.anyEnd {α : Type} {en : Bool} {r : Option (α × List UInt8)} {x y : α} {l l' : List UInt8} (h : Step en r true x l) : Step en r (!false) y l' := by
  rcases h with ⟨h, _⟩ | ⟨_, h⟩
  · cases h
  · exact Or.inr ⟨rfl, h⟩
theorem mown_setP {w : World} {P : Nat} {B : Nat} {e : TypeId} {size : Nat} {v : Value} {n : Nat} {xs : List Value} (ho : w.ownsRow B e size v n xs) (h : ∀ g, v.ownBlock = some g → g < P) (o : Nat) (x : Value) : (w.setCell ⟨P, o, none⟩ x).ownsRow B e size v n xs :=
  mown_block ho fun g hg => Below.heap_setCell _ _ _ _ (by have := h g hg; show g ≠ P; omega)
def RStopsOut (bs : List UInt8) (p : Nat) (w : World) (e : Ending) (w' : World) : Prop :=
  ∃ (v : Value) (r : List PStop) (q : Nat) (atI : Int) (ok : Bool), e = .returned (.tuple #[v, .int .i64 atI, .bool ok]) ∧ w'.ownsRow w.heap.size 64 3 v r.length (stopsCells r) ∧ Below w.heap.size w w' ∧ (ok = true → atI = (q : Int) ∧ q ≤ bs.length) ∧ r.length ≤ 255 ∧ Step false (routeR (bs.drop p)) (!ok) r (bs.drop q)

set_option maxRecDepth 100000 in
set_option maxHeartbeats 4000000 in
theorem rstops (a : Option Addr) (n c p : Nat) (pI : Int) (bs : List UInt8) (w : World) (hA : BsA w a bs) (hn : bs.length = n) (hcl : n ≤ c) (hnil : a = none → c = 0) (hp : p ≤ n) (hpI : (p : Int) = pI) (hb : n ≤ 140737488355328) :
    Calls Tryd.prog 100 #[.slice a n c, .int .i64 pI] w (RStopsOut bs p w) := by
  obtain ⟨i1, hj, hy0, hy1, hy2⟩ := info_parts info_stop
  have HA := Lib.hid hA
  have HN := Lib.hid hn
  have HNIL := Lib.hid hnil
  have HG1 := Lib.hid (rget a n c 1 p pI 1 bs w hA hn (by omega) hp hpI rfl hb)
  clear hA hn hnil hpI
  go_enter Tryd.func100, Tryd.ntmps100
  go_wp2_with fail
  refine HG1.out.mono ?_
  rintro e w' ⟨⟨x1, q1, at1, ok1, rfl, hx1, hat1, hs1⟩, rfl⟩
  have hx1' : x1 < 256 := hx1
  have HS1 := Lib.hid hs1
  have HAT1 := Lib.hid hat1
  clear hx1 hat1 hs1 HG1
  go_wp2_with fail
  go_loopw [1, 8, 9, 10] (fun sa sk v ix wr => ∃ (j : Nat) (ss : List PStop) (q : Nat) (atI : Int) (ok : Bool), j ≤ x1 ∧ ix = .int .i64 j ∧ sa = .int .i64 atI ∧ sk = .bool ok ∧ ss.length = j ∧ (ok = true → atI = (q : Int) ∧ q ≤ bs.length) ∧ wr.ownsRow w.heap.size 64 3 v ss.length (stopsCells ss) ∧ Below w.heap.size w wr ∧ LoopS stopR x1 (bs.drop q1) (!ok1) j ss (bs.drop q) (!ok)) (fun _ _ _ ix _ => x1 - (intOf ix).toNat)
  case atStart => exact ⟨0, [], q1, at1, ok1, by omega, rfl, rfl, rfl, rfl, HAT1.out, World.ownsRow_nil _ _ _ _, Below.refl _ _, LoopS.start⟩
  case round =>
    obtain ⟨wo, hwo⟩ : ∃ wo : World, wr = wo := ⟨_, rfl⟩
    obtain ⟨j, ss, q, atI, ok, hjx, rfl, rfl, rfl, hsj, hat, hown, hbel, hls⟩ := hrel
    rw [hwo] at hown hbel ⊢
    clear hwo
    obtain ⟨a9, c9, rfl⟩ := own_slice_n hown
    have HO := Lib.hid hown
    have HB := Lib.hid hbel
    have HL := Lib.hid hls
    have HSJ := Lib.hid hsj
    have HAT := Lib.hid hat
    clear hown hbel hls hsj hat
    by_cases hlt : j < x1
    · cases ok
      · go_wp2_with fail
        refine bodyPost_ret (v := .tuple #[.slice a9 ss.length c9, .int .i64 atI, .bool false]) ?_ rfl ?_
        · simp [results, Tryd.results100, go_sem]
        exact ⟨_, ss, q, atI, false, rfl, HO.out, HB.out, fun h => (by cases h), by have := HSJ.out; omega, Step.route HS1.out (HL.out.stop (Or.inr rfl))⟩
      · obtain ⟨hatq, hql⟩ := HAT.out rfl
        have hq : q ≤ n := by have := HN.out; omega
        have HATQ := Lib.hid hatq
        clear hatq hql
        obtain ⟨w1, P, hw1, hP⟩ : ∃ w1 P, wo.alloc (.cells #[.string ⟨#[]⟩, .int .i64 0, .int .i64 0] 64) = w1 ∧ wo.heap.size = P := ⟨_, _, rfl, rfl⟩
        have hb1 : Below wo.heap.size wo w1 := by rw [← hw1]; exact (Below.refl _ _).alloc (Nat.le_refl _) _
        have hh1 : w1.heap[P]? = some (.cells #[.string ⟨#[]⟩, .int .i64 0, .int .i64 0] 64 (0, 0)) := by rw [← hw1, ← hP]; exact heap_new _ _
        have hwP : w.heap.size ≤ P := by have := HB.out.size; omega
        have hPl1 : P < w1.heap.size := (Array.getElem?_eq_some_iff.1 hh1).1
        have HB1 := Lib.hid (HB.out.trans (hb1.mono HB.out.size))
        have HO1 := Lib.hid (ownsRow_old HO.out hb1)
        have HH1 := Lib.hid hh1
        have Hw1 := Lib.hid hw1
        have HPe := Lib.hid hP
        have HG3 := Lib.hid (rget a n c 1 q atI 1 bs w1 (HA.out.below HB1.out) HN.out (by omega) hq HATQ.out.symm rfl hb)
        have hssl : ss.length ≤ 255 := by have := HSJ.out; omega
        clear hb1 hh1 hw1 hP
        go_upto_region 9 with fail
        rw [Hw1.out, HPe.out]
        clear Hw1
        go_wp2_with fail
        refine HG3.out.mono ?_
        rintro e w' ⟨⟨x3, q3, at3, ok3, rfl, hx3, hat3, hs3⟩, rfl⟩
        have hx3' : x3 < 256 := hx3
        have HS3 := Lib.hid hs3
        have HAT3 := Lib.hid hat3
        have c0 : w1.cell? ⟨P, 0, none⟩ = some (.string ⟨#[]⟩) := (Lib.cell_of_heap HH1.out _).trans rfl
        have f0 := Lib.frozen_of_heap HH1.out 0
        have hcvn : ∀ W, (convert 35 9 (.slice none 0 0)).run Tryd.prog W = .ok (.string ⟨#[]⟩) W := fun W => run_convert_bytes_nil (P := Tryd.prog) W 35 5 Tryd.underlying35 Tryd.underlying5 0 0 9 Tryd.underlying9
        have HLT := Lib.hid (fun g (hg : (Value.slice a9 ss.length c9).ownBlock = some g) => (show g < P by have := (HO.out.lt g hg).2; have := HPe.out; omega))
        clear hx3 hat3 hs3 HG3
        cases ok3
        · obtain ⟨z1, hz1⟩ : ∃ z, w1.setCell ⟨P, 0, none⟩ (.string ⟨#[]⟩) = z := ⟨_, rfl⟩
          have hhz1 : z1.heap[P]? = some (.cells #[.string ⟨#[]⟩, .int .i64 0, .int .i64 0] 64 (0, 0)) := by rw [← hz1]; exact setk_heap HH1.out _
          have HOz1 := Lib.hid (show z1.ownsRow w.heap.size 64 3 (.slice a9 ss.length c9) ss.length (stopsCells ss) by rw [← hz1]; exact mown_setP HO1.out HLT.out _ _)
          have HBz1 := Lib.hid (show Below w.heap.size w z1 by rw [← hz1]; exact HB1.out.setCell (p := ⟨P, 0, none⟩) hwP _)
          have HHz1 := Lib.hid hhz1
          have Hz1 := Lib.hid hz1
          clear hhz1 hz1
          go_upto_region 17 with fail
          rw [Hz1.out]
          clear Hz1 f0 c0 hcvn
          have l0 : z1.cell? ⟨P, 0, none⟩ = some (.string ⟨#[]⟩) := (Lib.cell_of_heap HHz1.out _).trans rfl
          have l1 : z1.cell? ⟨P, 1, none⟩ = some (.int .i64 0) := (Lib.cell_of_heap HHz1.out _).trans rfl
          have l2 : z1.cell? ⟨P, 2, none⟩ = some (.int .i64 0) := (Lib.cell_of_heap HHz1.out _).trans rfl
          have HBz := HBz1
          go_wp2_with (first | (at_builtin; refine wpList_append_own _ rfl (.tmp 66) (.tmp 68) 36 rfl w.heap.size 64 i1 (.agg #[.string ⟨#[]⟩, .int .i64 0, .int .i64 0]) 3 32 Tryd.underlying36 hj hy0 hy1 hy2 rfl (by decide) _ ss.length _ rfl (HOz1.out.alloc _) ⟨z1.heap.size, 0, none⟩ 1 1 [.string _, .int .i64 _, .int .i64 _] rfl rfl (mcells_new _ [_, _, _] _) (stop_one _ _ _) (by unfold maxLen; omega) (by omega) (by rw [World.size_alloc]; have := HBz.out.size; omega) ?_; intro v' w9 hown9 hgrow _; have HG := Lib.hid hgrow; clear hgrow))
          have hbel9 := mbelow_grow (HBz1.out.alloc HBz1.out.size _) (by rw [World.size_alloc]; have := HBz1.out.size; omega) (HOz1.out.alloc _) HG.out
          go_roundw
          case rel => exact ⟨j + 1, ss ++ [⟨[], 0, 0⟩], 0, at3, false, by omega, by go_num, rfl, rfl, by rw [List.length_append, HSJ.out]; rfl, fun h => (by cases h), mown_cast hown9 (by simp) (by rw [stopsCells_snoc]; rfl), hbel9, HL.out.step hlt (Step.anyEnd (Step.stop (z := 0) (u := 0) (m := []) (l2 := []) (l3 := []) (l4 := []) HS3.out Step.of_end Step.of_end Step.of_end))⟩
          case measure => simp [intOf]; omega
        · obtain ⟨hat3, hq3l⟩ := HAT3.out rfl
          have hq3 : q3 ≤ n := by have := HN.out; omega
          have HG4 := Lib.hid (rtext a n c x3 q3 at3 bs w1 (HA.out.below HB1.out) HN.out hcl HNIL.out hq3 hat3.symm hb (by omega))
          clear hat3 hq3l c0 f0 hcvn
          go_wp2_with fail
          refine HG4.out.mono ?_
          rintro e w4 ⟨v4, x4, q4, at4, ok4, rfl, ho4, hb4, hat4, hs4⟩
          have hh4 := (hb4.block P hPl1).trans HH1.out
          have HH4 := Lib.hid hh4
          have HB4 := Lib.hid (HB1.out.trans (hb4.mono HB1.out.size))
          have HO4 := Lib.hid (ownsRow_old HO1.out hb4)
          have hcv := mconv_own ho4
          obtain ⟨a4, n4, c4, rfl⟩ := own_slice ho4
          obtain ⟨s4, hs4e⟩ : ∃ s4 : ByteArray, (⟨x4.toArray⟩ : ByteArray) = s4 := ⟨_, rfl⟩
          rw [hs4e] at hcv
          have HS4E := Lib.hid hs4e
          have HS4 := Lib.hid hs4
          have HAT4 := Lib.hid hat4
          have c0 : w4.cell? ⟨P, 0, none⟩ = some (.string ⟨#[]⟩) := (Lib.cell_of_heap hh4 _).trans rfl
          have f0 := Lib.frozen_of_heap hh4 0
          clear ho4 hb4 hh4 hs4e hs4 hat4 HG4
          obtain ⟨z4, hz4⟩ : ∃ z, w4.setCell ⟨P, 0, none⟩ (.string s4) = z := ⟨_, rfl⟩
          have hhz4 : z4.heap[P]? = some (.cells #[.string s4, .int .i64 0, .int .i64 0] 64 (0, 0)) := by rw [← hz4]; exact setk_heap HH4.out _
          have HOz4 := Lib.hid (show z4.ownsRow w.heap.size 64 3 (.slice a9 ss.length c9) ss.length (stopsCells ss) by rw [← hz4]; exact mown_setP HO4.out HLT.out _ _)
          have HBz4 := Lib.hid (show Below w.heap.size w z4 by rw [← hz4]; exact HB4.out.setCell (p := ⟨P, 0, none⟩) hwP _)
          have HHz4 := Lib.hid hhz4
          have Hz4 := Lib.hid hz4
          clear hhz4 hz4
          cases ok4
          · go_upto_region 17 with fail
            rw [Hz4.out]
            clear Hz4 f0 c0 hcv
            have l0 : z4.cell? ⟨P, 0, none⟩ = some (.string s4) := (Lib.cell_of_heap HHz4.out _).trans rfl
            have l1 : z4.cell? ⟨P, 1, none⟩ = some (.int .i64 0) := (Lib.cell_of_heap HHz4.out _).trans rfl
            have l2 : z4.cell? ⟨P, 2, none⟩ = some (.int .i64 0) := (Lib.cell_of_heap HHz4.out _).trans rfl
            have HBz := HBz4
            go_wp2_with (first | (at_builtin; refine wpList_append_own _ rfl (.tmp 66) (.tmp 68) 36 rfl w.heap.size 64 i1 (.agg #[.string ⟨#[]⟩, .int .i64 0, .int .i64 0]) 3 32 Tryd.underlying36 hj hy0 hy1 hy2 rfl (by decide) _ ss.length _ rfl (HOz4.out.alloc _) ⟨z4.heap.size, 0, none⟩ 1 1 [.string _, .int .i64 _, .int .i64 _] rfl rfl (mcells_new _ [_, _, _] _) (stop_one _ _ _) (by unfold maxLen; omega) (by omega) (by rw [World.size_alloc]; have := HBz.out.size; omega) ?_; intro v' w9 hown9 hgrow _; have HG := Lib.hid hgrow; clear hgrow))
            have hbel9 := mbelow_grow (HBz4.out.alloc HBz4.out.size _) (by rw [World.size_alloc]; have := HBz4.out.size; omega) (HOz4.out.alloc _) HG.out
            go_roundw
            case rel => exact ⟨j + 1, ss ++ [⟨x4, 0, 0⟩], 0, at4, false, by omega, by go_num, rfl, rfl, by rw [List.length_append, HSJ.out]; rfl, fun h => (by cases h), mown_cast hown9 (by simp) (by rw [stopsCells_snoc, ← HS4E.out]; rfl), hbel9, HL.out.step hlt (Step.anyEnd (Step.stop (z := 0) (u := 0) (l3 := []) (l4 := []) HS3.out HS4.out Step.of_end Step.of_end))⟩
            case measure => simp [intOf]; omega
          · obtain ⟨hat4, hq4l⟩ := HAT4.out rfl
            have hq4 : q4 ≤ n := by have := HN.out; omega
            have HG5 := Lib.hid (rget a n c 4 q4 at4 4 bs z4 (HA.out.below HBz4.out) HN.out (by omega) hq4 hat4.symm rfl hb)
            clear hat4 hq4l
            go_upto_region 14 with fail
            rw [Hz4.out]
            clear Hz4 f0 c0 hcv
            go_wp2_with fail
            refine HG5.out.mono ?_
            rintro e w' ⟨⟨x5, q5, at5, ok5, rfl, hx5, hat5, hs5⟩, rfl⟩
            have HS5 := Lib.hid hs5
            have HAT5 := Lib.hid hat5
            have c1 : z4.cell? ⟨P, 1, none⟩ = some (.int .i64 0) := (Lib.cell_of_heap HHz4.out _).trans rfl
            have f1 := Lib.frozen_of_heap HHz4.out 1
            clear hx5 hat5 hs5 HG5
            obtain ⟨z5, hz5⟩ : ∃ z, z4.setCell ⟨P, 1, none⟩ (.int .i64 x5) = z := ⟨_, rfl⟩
            have hhz5 : z5.heap[P]? = some (.cells #[.string s4, .int .i64 x5, .int .i64 0] 64 (0, 0)) := by rw [← hz5]; exact setk_heap HHz4.out _
            have HOz5 := Lib.hid (show z5.ownsRow w.heap.size 64 3 (.slice a9 ss.length c9) ss.length (stopsCells ss) by rw [← hz5]; exact mown_setP HOz4.out HLT.out _ _)
            have HBz5 := Lib.hid (show Below w.heap.size w z5 by rw [← hz5]; exact HBz4.out.setCell (p := ⟨P, 1, none⟩) hwP _)
            have HHz5 := Lib.hid hhz5
            have Hz5 := Lib.hid hz5
            clear hhz5 hz5
            cases ok5
            · go_upto_region 17 with fail
              rw [Hz5.out]
              clear Hz5 f1 c1
              have l0 : z5.cell? ⟨P, 0, none⟩ = some (.string s4) := (Lib.cell_of_heap HHz5.out _).trans rfl
              have l1 : z5.cell? ⟨P, 1, none⟩ = some (.int .i64 x5) := (Lib.cell_of_heap HHz5.out _).trans rfl
              have l2 : z5.cell? ⟨P, 2, none⟩ = some (.int .i64 0) := (Lib.cell_of_heap HHz5.out _).trans rfl
              have HBz := HBz5
              go_wp2_with (first | (at_builtin; refine wpList_append_own _ rfl (.tmp 66) (.tmp 68) 36 rfl w.heap.size 64 i1 (.agg #[.string ⟨#[]⟩, .int .i64 0, .int .i64 0]) 3 32 Tryd.underlying36 hj hy0 hy1 hy2 rfl (by decide) _ ss.length _ rfl (HOz5.out.alloc _) ⟨z5.heap.size, 0, none⟩ 1 1 [.string _, .int .i64 _, .int .i64 _] rfl rfl (mcells_new _ [_, _, _] _) (stop_one _ _ _) (by unfold maxLen; omega) (by omega) (by rw [World.size_alloc]; have := HBz.out.size; omega) ?_; intro v' w9 hown9 hgrow _; have HG := Lib.hid hgrow; clear hgrow))
              have hbel9 := mbelow_grow (HBz5.out.alloc HBz5.out.size _) (by rw [World.size_alloc]; have := HBz5.out.size; omega) (HOz5.out.alloc _) HG.out
              go_roundw
              case rel => exact ⟨j + 1, ss ++ [⟨x4, x5, 0⟩], 0, at5, false, by omega, by go_num, rfl, rfl, by rw [List.length_append, HSJ.out]; rfl, fun h => (by cases h), mown_cast hown9 (by simp) (by rw [stopsCells_snoc, ← HS4E.out]; rfl), hbel9, HL.out.step hlt (Step.anyEnd (Step.stop (u := 0) (l4 := []) HS3.out HS4.out HS5.out Step.of_end))⟩
              case measure => simp [intOf]; omega
            · obtain ⟨hat5, hq5l⟩ := HAT5.out rfl
              have hq5 : q5 ≤ n := by have := HN.out; omega
              have HG6 := Lib.hid (rget a n c 1 q5 at5 1 bs z5 (HA.out.below HBz5.out) HN.out (by omega) hq5 hat5.symm rfl hb)
              clear hat5 hq5l
              go_upto_region 16 with fail
              rw [Hz5.out]
              clear Hz5 f1 c1
              go_wp2_with fail
              refine HG6.out.mono ?_
              rintro e w' ⟨⟨x6, q6, at6, ok6, rfl, hx6, hat6, hs6⟩, rfl⟩
              have HS6 := Lib.hid hs6
              have HAT6 := Lib.hid hat6
              have c2 : z5.cell? ⟨P, 2, none⟩ = some (.int .i64 0) := (Lib.cell_of_heap HHz5.out _).trans rfl
              have f2 := Lib.frozen_of_heap HHz5.out 2
              clear hx6 hat6 hs6 HG6
              obtain ⟨z6, hz6⟩ : ∃ z, z5.setCell ⟨P, 2, none⟩ (.int .i64 x6) = z := ⟨_, rfl⟩
              have hhz6 : z6.heap[P]? = some (.cells #[.string s4, .int .i64 x5, .int .i64 x6] 64 (0, 0)) := by rw [← hz6]; exact setk_heap HHz5.out _
              have HOz6 := Lib.hid (show z6.ownsRow w.heap.size 64 3 (.slice a9 ss.length c9) ss.length (stopsCells ss) by rw [← hz6]; exact mown_setP HOz5.out HLT.out _ _)
              have HBz6 := Lib.hid (show Below w.heap.size w z6 by rw [← hz6]; exact HBz5.out.setCell (p := ⟨P, 2, none⟩) hwP _)
              have HHz6 := Lib.hid hhz6
              have Hz6 := Lib.hid hz6
              clear hhz6 hz6
              go_upto_region 17 with fail
              rw [Hz6.out]
              clear Hz6 f2 c2
              have l0 : z6.cell? ⟨P, 0, none⟩ = some (.string s4) := (Lib.cell_of_heap HHz6.out _).trans rfl
              have l1 : z6.cell? ⟨P, 1, none⟩ = some (.int .i64 x5) := (Lib.cell_of_heap HHz6.out _).trans rfl
              have l2 : z6.cell? ⟨P, 2, none⟩ = some (.int .i64 x6) := (Lib.cell_of_heap HHz6.out _).trans rfl
              have HBz := HBz6
              go_wp2_with (first | (at_builtin; refine wpList_append_own _ rfl (.tmp 66) (.tmp 68) 36 rfl w.heap.size 64 i1 (.agg #[.string ⟨#[]⟩, .int .i64 0, .int .i64 0]) 3 32 Tryd.underlying36 hj hy0 hy1 hy2 rfl (by decide) _ ss.length _ rfl (HOz6.out.alloc _) ⟨z6.heap.size, 0, none⟩ 1 1 [.string _, .int .i64 _, .int .i64 _] rfl rfl (mcells_new _ [_, _, _] _) (stop_one _ _ _) (by unfold maxLen; omega) (by omega) (by rw [World.size_alloc]; have := HBz.out.size; omega) ?_; intro v' w9 hown9 hgrow _; have HG := Lib.hid hgrow; clear hgrow))
              have hbel9 := mbelow_grow (HBz6.out.alloc HBz6.out.size _) (by rw [World.size_alloc]; have := HBz6.out.size; omega) (HOz6.out.alloc _) HG.out
              go_roundw
              case rel => exact ⟨j + 1, ss ++ [⟨x4, x5, x6⟩], q6, at6, ok6, by omega, by go_num, rfl, rfl, by rw [List.length_append, HSJ.out]; rfl, HAT6.out, mown_cast hown9 (by simp) (by rw [stopsCells_snoc, ← HS4E.out]; rfl), hbel9, HL.out.step hlt (Step.stop HS3.out HS4.out HS5.out HS6.out)⟩
              case measure => simp [intOf]; omega
    · go_wp2_with fail
      refine bodyPost_ret (v := .tuple #[.slice a9 ss.length c9, .int .i64 atI, .bool ok]) ?_ rfl ?_
      · simp [results, Tryd.results100, go_sem]
      exact ⟨_, ss, q, atI, ok, rfl, HO.out, HB.out, HAT.out, by have := HSJ.out; omega, Step.route HS1.out (HL.out.stop (Or.inl (by omega)))⟩
end Go.Proofs.YtaijdpckkobofaaDoor
