/- The reference's send. -/
import Derived.Test.YtaijdpckkobofaaDoorRDec3
import Derived.Deep.CutBlock
namespace Go.Proofs.YtaijdpckkobofaaDoor
open Go.RowKit
set_option linter.unusedVariables false

def RSendOut (bs : List UInt8) (p : Nat) (w : World) (e : Ending) (w' : World) : Prop :=
  ∃ (x u : Nat) (v : Value) (rs : List Int) (q : Nat) (atI : Int) (ok : Bool), e = .returned (.tuple #[.agg #[.int .i64 x, v, .int .i64 ((u : Int) - 1)], .int .i64 atI, .bool ok]) ∧ w'.ownsRow w.heap.size 3 1 v rs.length (intsCells rs) ∧ Below w.heap.size w w' ∧ (ok = true → atI = (q : Int) ∧ q ≤ bs.length) ∧ Step false (specR (bs.drop p)) (!ok) ⟨x, rs, (u : Int) - 1⟩ (bs.drop q)

theorem Step.any {α : Type} {en : Bool} {r : Option (α × List UInt8)} {x y : α} {l l' : List UInt8} (h : Step en r true x l) : Step en r true y l' := by
  rcases h with ⟨h, _⟩ | ⟨_, h⟩
  · cases h
  · exact Or.inr ⟨rfl, h⟩
theorem Step.offEnd {α : Type} {r : Option (α × List UInt8)} {x : α} {l : List UInt8} : Step (!false) r (!false) x l := Step.of_end
theorem set0_heap {w : World} {P : Nat} {x y z : Value} {t : TypeId} {fz : Nat × Nat} (h : w.heap[P]? = some (.cells #[x, y, z] t fz)) (v : Value) : (w.setCell ⟨P, 0, none⟩ v).heap[P]? = some (.cells #[v, y, z] t fz) := by
  simp [World.setCell, Array.getElem?_modify, h]

set_option maxRecDepth 100000 in
set_option maxHeartbeats 4000000 in
theorem rsend (a : Option Addr) (n c p : Nat) (pI : Int) (bs : List UInt8) (w : World) (hA : BsA w a bs) (hn : bs.length = n) (hp : p ≤ n) (hpI : (p : Int) = pI) (hb : n ≤ 140737488355328) :
    Calls Tryd.prog 101 #[.slice a n c, .int .i64 pI] w (RSendOut bs p w) := by
  obtain ⟨i1, hj, hy0, hy1, hy2⟩ := info_parts info_int
  have HN := Lib.hid hn
  obtain ⟨R, hR⟩ : ∃ R, w.heap.size = R := ⟨_, rfl⟩
  obtain ⟨wa, hwa⟩ : ∃ wa, w.alloc (.cells #[.int .i64 0, .slice none 0 0, .int .i64 0] 39) = wa := ⟨_, rfl⟩
  obtain ⟨w1, hw1⟩ : ∃ w1, wa.alloc (.cells #[.int .i64 0, .slice none 0 0, .int .i64 0] 39) = w1 := ⟨_, rfl⟩
  have hsa : wa.heap.size = R + 1 := by rw [← hwa, World.size_alloc, hR]
  have hs1 : w1.heap.size = R + 2 := by rw [← hw1, World.size_alloc, hsa]
  have hba : Below w.heap.size w wa := by rw [← hwa]; exact (Below.refl _ _).alloc (Nat.le_refl _) _
  have hb1 : Below wa.heap.size wa w1 := by rw [← hw1]; exact (Below.refl _ _).alloc (Nat.le_refl _) _
  have hB1 : Below w.heap.size w w1 := hba.trans (hb1.mono hba.size)
  have hhR : w1.heap[R]? = some (.cells #[.int .i64 0, .slice none 0 0, .int .i64 0] 39 (0, 0)) := by rw [hb1.block R (by omega), ← hwa, ← hR]; exact heap_new _ _
  have hhQ : w1.heap[R + 1]? = some (.cells #[.int .i64 0, .slice none 0 0, .int .i64 0] 39 (0, 0)) := by rw [← hsa, ← hw1]; exact heap_new _ _
  obtain ⟨Q, hQ⟩ : ∃ Q, R + 1 = Q := ⟨_, rfl⟩
  rw [hQ] at hhQ
  have HG1 := Lib.hid (rget a n c 1 p pI 1 bs w1 (hA.below hB1) hn (by omega) hp hpI rfl hb)
  have HA := Lib.hid hA
  have HB1 := Lib.hid hB1
  have HHR := Lib.hid hhR
  have HHQ := Lib.hid hhQ
  have HR := Lib.hid hR
  have HQ := Lib.hid hQ
  have Hwa := Lib.hid hwa
  have Hw1 := Lib.hid hw1
  have Hsa := Lib.hid (hsa.trans hQ)
  clear hA hn hpI hba hb1 hB1 hhR hhQ hwa hw1 hsa hR hQ hs1
  go_enter Tryd.func101, Tryd.ntmps101
  go_upto_region 4 with fail
  rw [Hwa.out, Hw1.out, HR.out, HQ.out]
  clear Hwa Hw1 Hsa
  go_wp2_with fail
  refine HG1.out.mono ?_
  rintro e w' ⟨⟨x1, q1, at1, ok1, rfl, hx1, hat1, hst1⟩, rfl⟩
  have hx1' : x1 < 256 := hx1
  have HS1 := Lib.hid hst1
  have HAT1 := Lib.hid hat1
  clear hx1 hat1 hst1 HG1
  have d0 : w1.cell? ⟨Q, 0, none⟩ = some (.int .i64 0) := (Lib.cell_of_heap HHQ.out _).trans rfl
  have f0 := Lib.frozen_of_heap HHQ.out 0
  obtain ⟨w2, hw2⟩ : ∃ w2, w1.setCell ⟨Q, 0, none⟩ (.int .i64 x1) = w2 := ⟨_, rfl⟩
  have hRQ : R ≠ Q := by have := HQ.out; omega
  have HHQ2 := Lib.hid (show w2.heap[Q]? = some (.cells #[.int .i64 x1, .slice none 0 0, .int .i64 0] 39 (0, 0)) by rw [← hw2]; exact set0_heap HHQ.out _)
  have HHR2 := Lib.hid (show w2.heap[R]? = some (.cells #[.int .i64 0, .slice none 0 0, .int .i64 0] 39 (0, 0)) by rw [← hw2]; exact (Below.heap_setCell _ _ _ _ hRQ).trans HHR.out)
  have HB2 := Lib.hid (show Below w.heap.size w w2 by rw [← hw2]; exact HB1.out.setCell (p := ⟨Q, 0, none⟩) (by show w.heap.size ≤ Q; have := HQ.out; have := HR.out; omega) _)
  have Hw2 := Lib.hid hw2
  clear hw2
  go_upto_if 20 with fail
  rw [Hw2.out]
  clear Hw2 d0 f0
  go_cut [1, 8, 10] (fun s1 s8 s10 wx => ∃ (x2 q2 : Nat) (at2 : Int) (ok2 : Bool), s1 = .int .i64 at2 ∧ s8 = .int .i64 x2 ∧ s10 = .bool ok2 ∧ x2 < 256 ∧ (ok2 = true → at2 = (q2 : Int) ∧ q2 ≤ bs.length) ∧ Step (!ok1) (numR 1 (bs.drop q1)) (!ok2) x2 (bs.drop q2) ∧ w2 = wx)
  case first =>
    cases ok1
    · go_wp2_with fail
      go_meet
      exact ⟨0, 0, at1, false, rfl, rfl, rfl, by omega, fun h => (by cases h), Step.offEnd, rfl⟩
    · obtain ⟨hatq, hql⟩ := HAT1.out rfl
      have HG2 := Lib.hid (rget a n c 1 q1 at1 1 bs w2 (HA.out.below HB2.out) HN.out (by omega) (by have := HN.out; omega) hatq.symm rfl hb)
      clear hatq hql
      go_wp2_with fail
      refine HG2.out.mono ?_
      rintro e w' ⟨⟨x2, q2, at2, ok2, rfl, hx2, hat2, hst2⟩, rfl⟩
      have hx2' : x2 < 256 := hx2
      have HS2 := Lib.hid hst2
      have HAT2 := Lib.hid hat2
      clear hx2 hat2 hst2 HG2
      go_wp2_with fail
      go_meet
      exact ⟨x2, q2, at2, ok2, rfl, rfl, rfl, hx2', HAT2.out, HS2.out, rfl⟩
  case rest =>
    obtain ⟨x2, q2, at2, ok2, rfl, rfl, rfl, hx2, hat2, hst2, rfl⟩ := hcut
    have HS2 := Lib.hid hst2
    have HAT2 := Lib.hid hat2
    clear hat2 hst2
    go_upto_block 0 with fail
    go_cut [1, 10] (fun s1 s10 wx => ∃ (v : Value) (rs : List Int) (q3 : Nat) (at3 : Int) (ok3 : Bool), s1 = .int .i64 at3 ∧ s10 = .bool ok3 ∧ (ok3 = true → at3 = (q3 : Int) ∧ q3 ≤ bs.length) ∧ Step (!ok2) (moreR intR x2 [] (bs.drop q2)) (!ok3) rs (bs.drop q3) ∧ Below w.heap.size w wx ∧ wx.heap[R]? = some (.cells #[.int .i64 0, .slice none 0 0, .int .i64 0] 39 (0, 0)) ∧ wx.heap[Q]? = some (.cells #[.int .i64 x1, v, .int .i64 0] 39 (0, 0)) ∧ wx.ownsRow w.heap.size 3 1 v rs.length (intsCells rs))
    case first =>
      go_wp2_with fail
      go_loopw [1, 9, 10, 11] (fun sa sz sk ix wr => ∃ (j z : Nat) (v : Value) (rs : List Int) (q3 : Nat) (at3 : Int) (ok3 : Bool), j ≤ x2 ∧ ix = .int .i64 j ∧ sz = .int .i64 z ∧ sa = .int .i64 at3 ∧ sk = .bool ok3 ∧ rs.length = j ∧ (ok3 = true → at3 = (q3 : Int) ∧ q3 ≤ bs.length) ∧ LoopS intR x2 (bs.drop q2) (!ok2) j rs (bs.drop q3) (!ok3) ∧ Below w.heap.size w wr ∧ wr.heap[R]? = some (.cells #[.int .i64 0, .slice none 0 0, .int .i64 0] 39 (0, 0)) ∧ wr.heap[Q]? = some (.cells #[.int .i64 x1, v, .int .i64 0] 39 (0, 0)) ∧ wr.ownsRow w.heap.size 3 1 v rs.length (intsCells rs)) (fun _ _ _ ix _ => x2 - (intOf ix).toNat)
      case atStart => exact ⟨0, 0, _, [], q2, at2, ok2, by omega, rfl, rfl, rfl, rfl, rfl, HAT2.out, LoopS.start, HB2.out, HHR2.out, HHQ2.out, World.ownsRow_nil _ _ _ _⟩
      case round =>
        obtain ⟨wo, hwo⟩ : ∃ wo : World, wr = wo := ⟨_, rfl⟩
        obtain ⟨j, z, v, rs, q3, at3, ok3, hjx, rfl, rfl, rfl, rfl, hsj, hat, hls, hbel, hhr, hhq, hown⟩ := hrel
        rw [hwo] at hown hbel hhr hhq ⊢
        clear hwo
        obtain ⟨a3, c3, rfl⟩ := own_slice_n hown
        have HO := Lib.hid hown
        have HB := Lib.hid hbel
        have HL := Lib.hid hls
        have HSJ := Lib.hid hsj
        have HAT := Lib.hid hat
        have HHR3 := Lib.hid hhr
        have HHQ3 := Lib.hid hhq
        clear hown hbel hls hsj hat hhr hhq
        by_cases hlt : j < x2
        · cases ok3
          · go_wp2_with fail
            go_meet
            exact ⟨_, rs, q3, at3, false, rfl, rfl, fun h => (by cases h), HL.out.stop (Or.inr rfl), HB.out, HHR3.out, HHQ3.out, HO.out⟩
          · obtain ⟨hatq, hql⟩ := HAT.out rfl
            have HG4 := Lib.hid (rget a n c 1 q3 at3 1 bs wo (HA.out.below HB.out) HN.out (by omega) (by have := HN.out; omega) hatq.symm rfl hb)
            clear hatq hql
            go_wp2_with fail
            refine HG4.out.mono ?_
            rintro e w' ⟨⟨x4, q4, at4, ok4, rfl, hx4, hat4, hst4⟩, rfl⟩
            have hx4' : x4 < 256 := hx4
            have HS4 := Lib.hid hst4
            have HAT4 := Lib.hid hat4
            have p1 : wo.cell? ⟨Q, 1, none⟩ = some (.slice a3 rs.length c3) := (Lib.cell_of_heap HHQ3.out _).trans rfl
            have hrl : rs.length ≤ 255 := by have := HSJ.out; omega
            have hwz : w.heap.size ≤ wo.heap.size := HB.out.size
            have hRl : R < wo.heap.size := (Array.getElem?_eq_some_iff.1 HHR3.out).1
            have hQl : Q < wo.heap.size := (Array.getElem?_eq_some_iff.1 HHQ3.out).1
            have hwQ : w.heap.size ≤ Q := by have := HQ.out; have := HR.out; omega
            clear hx4 hat4 hst4 HG4
            go_wp2_with (first | (at_builtin; refine wpList_append_own _ rfl (.tmp 44) (.tmp 46) 37 rfl w.heap.size 3 i1 (.int .i64 0) 1 8 Tryd.underlying37 hj hy0 hy1 hy2 rfl (by decide) _ rs.length _ rfl (HO.out.alloc _) ⟨wo.heap.size, 0, none⟩ 1 1 [.int .i64 (x4 : Int)] rfl rfl (mcells_new _ [_] _) (one_cell _ rfl) (by unfold maxLen; omega) (by omega) (mle_alloc hwz _) ?_; intro v9 w9 hown9 hgrow9 _; obtain ⟨a9, n9, c9, rfl⟩ := own_slice hown9; have hh9 := block_app HHQ3.out HO.out (by decide) hgrow9; have hr9 := block_app HHR3.out HO.out (by decide) hgrow9; have p19 : w9.cell? ⟨Q, 1, none⟩ = some (.slice a3 rs.length c3) := (Lib.cell_of_heap hh9 _).trans rfl; have f19 := Lib.frozen_of_heap hh9 1; have hg9 := Lib.hid hgrow9; have ho9 := Lib.hid hown9; have hh9h := Lib.hid hh9; have hr9h := Lib.hid hr9; clear hgrow9 hown9 hh9 hr9))
            all_goals
              have hb9 := mbelow_grow (HB.out.alloc hwz _) (by rw [World.size_alloc]; omega) (HO.out.alloc _) hg9.out
              go_roundw
              case rel => exact ⟨j + 1, x4, _, rs ++ [(x4 : Int)], q4, at4, ok4, by omega, by go_num, rfl, rfl, rfl, by rw [List.length_append, HSJ.out]; rfl, HAT4.out, HL.out.step hlt (Step.int HS4.out), hb9.setCell (p := ⟨Q, 1, none⟩) hwQ _, (Below.heap_setCell _ _ _ _ hRQ).trans hr9h.out, set1_heap hh9h.out _, own_set hh9h.out (mown_cast ho9.out (by simp) (by rw [intsCells_snoc])) (by decide) _ _⟩
              case measure => simp [intOf]; omega
        · go_wp2_with fail
          go_meet
          exact ⟨_, rs, q3, at3, ok3, rfl, rfl, HAT.out, HL.out.stop (Or.inl (by omega)), HB.out, HHR3.out, HHQ3.out, HO.out⟩
    case rest =>
      obtain ⟨v, rs, q3, at3, ok3, rfl, rfl, hat3, hst3, hbel, hhr, hhq, hown⟩ := hcut
      obtain ⟨w3, hw3⟩ : ∃ w3 : World, wc = w3 := ⟨_, rfl⟩
      rw [hw3] at hbel hhr hhq hown ⊢
      clear hw3
      obtain ⟨a3, c3, rfl⟩ := own_slice_n hown
      have HO := Lib.hid hown
      have HB := Lib.hid hbel
      have HS3 := Lib.hid hst3
      have HAT3 := Lib.hid hat3
      have HHR3 := Lib.hid hhr
      have HHQ3 := Lib.hid hhq
      have d2 : w3.cell? ⟨Q, 2, none⟩ = some (.int .i64 0) := (Lib.cell_of_heap hhq _).trans rfl
      have f2 := Lib.frozen_of_heap hhq 2
      clear hown hbel hst3 hat3 hhr hhq
      have hwQ : w.heap.size ≤ Q := by have := HQ.out; have := HR.out; omega
      go_upto_if 49 with fail
      go_cut [1, 10] (fun s1 s10 wx => ∃ (u4 q4 : Nat) (at4 : Int) (ok4 : Bool), s1 = .int .i64 at4 ∧ s10 = .bool ok4 ∧ u4 < 256 ∧ (ok4 = true → at4 = (q4 : Int) ∧ q4 ≤ bs.length) ∧ Step (!ok3) (numR 1 (bs.drop q3)) (!ok4) u4 (bs.drop q4) ∧ Below w.heap.size w wx ∧ wx.heap[R]? = some (.cells #[.int .i64 0, .slice none 0 0, .int .i64 0] 39 (0, 0)) ∧ wx.heap[Q]? = some (.cells #[.int .i64 x1, .slice a3 rs.length c3, .int .i64 u4] 39 (0, 0)) ∧ wx.ownsRow w.heap.size 3 1 (.slice a3 rs.length c3) rs.length (intsCells rs))
      case first =>
        cases ok3
        · go_wp2_with fail
          go_meet
          exact ⟨0, 0, at3, false, rfl, rfl, by omega, fun h => (by cases h), Step.offEnd, HB.out, HHR3.out, HHQ3.out, HO.out⟩
        · obtain ⟨hatq, hql⟩ := HAT3.out rfl
          have HG4 := Lib.hid (rget a n c 1 q3 at3 1 bs w3 (HA.out.below HB.out) HN.out (by omega) (by have := HN.out; omega) hatq.symm rfl hb)
          clear hatq hql
          go_wp2_with fail
          refine HG4.out.mono ?_
          rintro e w' ⟨⟨x4, q4, at4, ok4, rfl, hx4, hat4, hst4⟩, rfl⟩
          have hx4' : x4 < 256 := hx4
          have HS4 := Lib.hid hst4
          have HAT4 := Lib.hid hat4
          clear hx4 hat4 hst4 HG4
          go_wp2_with fail
          go_meet
          exact ⟨x4, q4, at4, ok4, rfl, rfl, hx4', HAT4.out, HS4.out, HB.out.setCell (p := ⟨Q, 2, none⟩) hwQ _, (Below.heap_setCell _ _ _ _ hRQ).trans HHR3.out, set2_heap HHQ3.out _, own_set HHQ3.out HO.out (by decide) _ _⟩
      case rest =>
        obtain ⟨u4, q4, at4, ok4, rfl, rfl, hu4, hat4, hst4, hb4, hhr4, hhq4, ho4⟩ := hcut
        obtain ⟨w4, hw4e⟩ : ∃ w4 : World, wc = w4 := ⟨_, rfl⟩
        rw [hw4e] at hb4 hhr4 hhq4 ho4 ⊢
        clear hw4e d2 f2
        obtain ⟨w5, hw5⟩ : ∃ w5, w4.setCell ⟨Q, 2, none⟩ (.int .i64 ((u4 : Int) - 1)) = w5 := ⟨_, rfl⟩
        have HHQ5 := Lib.hid (show w5.heap[Q]? = some (.cells #[.int .i64 x1, .slice a3 rs.length c3, .int .i64 ((u4 : Int) - 1)] 39 (0, 0)) by rw [← hw5]; exact set2_heap hhq4 _)
        have HHR5 := Lib.hid (show w5.heap[R]? = some (.cells #[.int .i64 0, .slice none 0 0, .int .i64 0] 39 (0, 0)) by rw [← hw5]; exact (Below.heap_setCell _ _ _ _ hRQ).trans hhr4)
        have HB5 := Lib.hid (show Below w.heap.size w w5 by rw [← hw5]; exact hb4.setCell (p := ⟨Q, 2, none⟩) hwQ _)
        have HO5 := Lib.hid (show w5.ownsRow w.heap.size 3 1 (.slice a3 rs.length c3) rs.length (intsCells rs) by rw [← hw5]; exact own_set hhq4 ho4 (by decide) _ _)
        have e2 : w4.cell? ⟨Q, 2, none⟩ = some (.int .i64 u4) := (Lib.cell_of_heap hhq4 _).trans rfl
        have f2 := Lib.frozen_of_heap hhq4 2
        have HS4 := Lib.hid hst4
        have HAT4 := Lib.hid hat4
        have HW5 := Lib.hid hw5
        clear hst4 hat4 hb4 hhr4 hhq4 ho4 hw5
        go_upto_region 15 with fail
        rw [HW5.out]
        clear HW5 e2 f2
        have q0 : w5.cell? ⟨Q, 0, none⟩ = some (.int .i64 x1) := (Lib.cell_of_heap HHQ5.out _).trans rfl
        have q1' : w5.cell? ⟨Q, 1, none⟩ = some (.slice a3 rs.length c3) := (Lib.cell_of_heap HHQ5.out _).trans rfl
        have q2' : w5.cell? ⟨Q, 2, none⟩ = some (.int .i64 ((u4 : Int) - 1)) := (Lib.cell_of_heap HHQ5.out _).trans rfl
        have r0 : w5.cell? ⟨R, 0, none⟩ = some (.int .i64 0) := (Lib.cell_of_heap HHR5.out _).trans rfl
        have r1 : w5.cell? ⟨R, 1, none⟩ = some (.slice none 0 0) := (Lib.cell_of_heap HHR5.out _).trans rfl
        have r2 : w5.cell? ⟨R, 2, none⟩ = some (.int .i64 0) := (Lib.cell_of_heap HHR5.out _).trans rfl
        have g0 := Lib.frozen_of_heap HHR5.out 0
        have g1 := Lib.frozen_of_heap HHR5.out 1
        have g2 := Lib.frozen_of_heap HHR5.out 2
        have hwR : w.heap.size ≤ R := by have := HR.out; omega
        go_wp2_with fail
        refine bodyPost_ret (v := .tuple #[.agg #[.int .i64 x1, .slice a3 rs.length c3, .int .i64 ((u4 : Int) - 1)], .int .i64 at4, .bool ok4]) ?_ rfl ?_
        · have hz := set2_heap (set1_heap (set0_heap HHR5.out (.int .i64 x1)) (.slice a3 rs.length c3)) (.int .i64 ((u4 : Int) - 1))
          have z0 := (Lib.cell_of_heap hz 0).trans rfl
          have z1 := (Lib.cell_of_heap hz 1).trans rfl
          have z2 := (Lib.cell_of_heap hz 2).trans rfl
          simp [results, Tryd.results101, go_sem, z0, z1, z2]
        exact ⟨x1, u4, _, rs, q4, at4, ok4, rfl, own_set (set1_heap (set0_heap HHR5.out _) _) (own_set (set0_heap HHR5.out _) (own_set HHR5.out HO5.out (by decide) _ _) (by decide) _ _) (by decide) _ _, ((HB5.out.setCell (p := ⟨R, 0, none⟩) hwR _).setCell (p := ⟨R, 1, none⟩) hwR _).setCell (p := ⟨R, 2, none⟩) hwR _, HAT4.out, Step.spec HS1.out HS2.out HS3.out HS4.out⟩
end Go.Proofs.YtaijdpckkobofaaDoor
