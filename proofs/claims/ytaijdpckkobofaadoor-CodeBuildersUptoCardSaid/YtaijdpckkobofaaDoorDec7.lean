/- A reader with a flag: sends. -/
import Derived.Test.YtaijdpckkobofaaDoorDec6
namespace Go.Proofs.YtaijdpckkobofaaDoor
open Go.RowKit
set_option linter.unusedVariables false

def intsCells (l : List Int) : List Value := l.map (Value.int .i64)
theorem intsCells_snoc (l : List Int) (i : Int) : intsCells (l ++ [i]) = intsCells l ++ [.int .i64 i] := by simp [intsCells]
theorem info_int : (Tryd.prog.info? 3).map (fun i => (i.zero, i.size, i.bytes)) = some (some (.int .i64 0), 1, 8) := by kernel_rfl
theorem info_spec : (Tryd.prog.info? 39).map (fun i => (i.zero, i.size, i.bytes)) = some (some (.agg #[.int .i64 0, .slice none 0 0, .int .i64 0]), 3, 40) := by kernel_rfl
theorem spec_one (a b : Int) (x : Option Addr) (n c : Nat) : ∀ u ∈ [Value.int .i64 a, .slice x n c, .int .i64 b], u.oneCell' = true := fun u hu => by
  simp at hu
  rcases hu with rfl | rfl | rfl <;> rfl
/-- the cells of specs whose routes lie at these values -/
def specCells : List PSpec → List Value → List Value
  | s :: ss, v :: vs => .int .i64 s.msg :: v :: .int .i64 s.block :: specCells ss vs
  | _, _ => []
theorem specCells_len : ∀ (ss : List PSpec) (vs : List Value), vs.length = ss.length → (specCells ss vs).length = ss.length * 3
  | [], [], _ => rfl
  | s :: ss, v :: vs, h => by
    have := specCells_len ss vs (by simpa using h)
    simp only [specCells, List.length_cons, this]; omega
  | [], _ :: _, h => by simp at h
  | _ :: _, [], h => by simp at h
theorem specCells_snoc : ∀ (ss : List PSpec) (vs : List Value) (s : PSpec) (v : Value), vs.length = ss.length → specCells (ss ++ [s]) (vs ++ [v]) = specCells ss vs ++ [.int .i64 s.msg, v, .int .i64 s.block]
  | [], [], s, v, _ => rfl
  | t :: ss, u :: vs, s, v, h => by
    have := specCells_snoc ss vs s v (by simpa using h)
    simp only [List.cons_append, specCells, this]
  | [], _ :: _, _, _, h => by simp at h
  | _ :: _, [], _, _, h => by simp at h
abbrev OwnSs := OwnR (α := PSpec) 3 1 (fun s => s.routes.length) (fun s => intsCells s.routes)

theorem Kp.cell {b c : Nat} {w w' : World} (h : Kp b c w w') {k o : Nat} (hk : k < w.heap.size) (hb : k ≠ b) (hc : k ≠ c) : w'.cell? ⟨k, o, none⟩ = w.cell? ⟨k, o, none⟩ := by
  have := h.oth k hk hb hc
  unfold World.cell?
  simp only [this]
/-- a block of another type stands behind an append -/
theorem block_app {w w9 : World} {P : Nat} {cs : Array Value} {t : TypeId} {fz : Nat × Nat} (h : w.heap[P]? = some (.cells cs t fz)) {B : Nat} {e : TypeId} {size : Nat} {v : Value} {n : Nat} {xs : List Value} {o : Obj} (ho : w.ownsRow B e size v n xs) (hne : t ≠ e) (hg : (w.alloc o).grownBy w9 v.ownBlock) : w9.heap[P]? = some (.cells cs t fz) := by
  have hlt := (Array.getElem?_eq_some_iff.1 h).1
  refine ((hg.block P (by rw [World.size_alloc]; omega) ?_).trans (((Below.refl w.heap.size w).alloc (Nat.le_refl _) o).block P hlt)).trans h
  intro he
  obtain ⟨cs', fz', hh'⟩ := Lib.ownsRow_kind ho P he.symm
  rw [h] at hh'
  injection hh' with hh'
  injection hh' with _ hh' _
  exact hne hh'
theorem set1_heap {w : World} {P : Nat} {x y z : Value} {t : TypeId} {fz : Nat × Nat} (h : w.heap[P]? = some (.cells #[x, y, z] t fz)) (v : Value) : (w.setCell ⟨P, 1, none⟩ v).heap[P]? = some (.cells #[x, v, z] t fz) := by
  simp [World.setCell, Array.getElem?_modify, h]
theorem set2_heap {w : World} {P : Nat} {x y z : Value} {t : TypeId} {fz : Nat × Nat} (h : w.heap[P]? = some (.cells #[x, y, z] t fz)) (v : Value) : (w.setCell ⟨P, 2, none⟩ v).heap[P]? = some (.cells #[x, y, v] t fz) := by
  simp [World.setCell, Array.getElem?_modify, h]
/-- a store to a block of the call's own -/
theorem RdS.new {b c : Nat} {da : Option Addr} {cap : Nat} {bs : List UInt8} {q : Nat} {en : Bool} {w1 w : World} {P : Nat} (hr : RdS b c da cap bs q en w) (hk : Kp b c w1 w) (hP : w1.heap.size ≤ P) (hb : b < w1.heap.size) (hc : c < w1.heap.size) (o : Nat) (v : Value) :
    RdS b c da cap bs q en (w.setCell ⟨P, o, none⟩ v) ∧ Kp b c w1 (w.setCell ⟨P, o, none⟩ v) := by
  have hs : ∀ k, k ≠ P → (w.setCell ⟨P, o, none⟩ v).heap[k]? = w.heap[k]? := fun k hk => Below.heap_setCell _ _ _ _ hk
  refine ⟨⟨(hs b (by omega)).trans hr.hb, (hs c (by omega)).trans hr.hc, hr.le, ?_, hr.cl, hr.big, hr.dl, hr.nil, hr.lt⟩, ⟨hk.below.setCell (p := ⟨P, o, none⟩) (by show c ≤ P; omega) v, hk.lt, fun k hk' hb' hc' => (hs k (by omega)).trans (hk.oth k hk' hb' hc')⟩⟩
  exact hr.dat.blocks (fun ad e => hs _ (by have := hr.dl ad e; omega)) (by simp [World.setCell])
theorem own_set {w : World} {P : Nat} {cs : Array Value} {t : TypeId} {fz : Nat × Nat} (h : w.heap[P]? = some (.cells cs t fz)) {B : Nat} {e : TypeId} {size : Nat} {v : Value} {n : Nat} {xs : List Value} (ho : w.ownsRow B e size v n xs) (hne : t ≠ e) (o : Nat) (x : Value) : (w.setCell ⟨P, o, none⟩ x).ownsRow B e size v n xs := by
  refine mown_block ho fun g hg => Below.heap_setCell _ _ _ _ fun he => ?_
  obtain ⟨cs', fz', hh'⟩ := Lib.ownsRow_kind ho g hg
  have he' : g = P := he
  subst he'
  rw [h] at hh'
  injection hh' with hh'
  injection hh' with _ hh' _
  exact hne hh'

def SendsOut (b c : Nat) (da : Option Addr) (cap : Nat) (bs : List UInt8) (n p : Nat) (en : Bool) (w : World) (e : Ending) (w' : World) : Prop :=
  ∃ (v : Value) (vs : List Value) (acc : List PSpec) (q : Nat) (en' : Bool), e = .returned v ∧ w'.ownsRow w.heap.size 39 3 v acc.length (specCells acc vs) ∧ OwnSs w.heap.size w' vs acc ∧ RdS b c da cap bs q en' w' ∧ Kp b c w w' ∧ Step en (moreR specR n [] (bs.drop p)) en' acc (bs.drop q)

set_option maxRecDepth 100000 in
set_option maxHeartbeats 4000000 in
theorem rsends (b c : Nat) (da : Option Addr) (cap : Nat) (bs : List UInt8) (n p : Nat) (en : Bool) (w : World) (h : RdS b c da cap bs p en w) (hn : n ≤ 65535) :
    Calls Tryd.prog 51 #[.pointer (some ⟨b, 0, none⟩), .int .i64 n] w (SendsOut b c da cap bs n p en w) := by
  obtain ⟨i0, hi, hz0, hz1, hz2⟩ := info_parts info_spec
  obtain ⟨i1, hj, hy0, hy1, hy2⟩ := info_parts info_int
  have HR0 := Lib.hid h
  have hcw : c ≤ w.heap.size := by have := h.cl'; omega
  have hlt := h.lt
  clear h
  go_enter Tryd.func51, Tryd.ntmps51
  go_wp2_with fail
  go_loopw [5, 6] (fun v ix wr => ∃ (k : Nat) (vs : List Value) (acc : List PSpec) (q : Nat) (en' : Bool), k ≤ n ∧ ix = .int .i64 k ∧ acc.length = k ∧ wr.ownsRow w.heap.size 39 3 v acc.length (specCells acc vs) ∧ OwnSs w.heap.size wr vs acc ∧ RdS b c da cap bs q en' wr ∧ Kp b c w wr ∧ LoopS specR n (bs.drop p) en k acc (bs.drop q) en') (fun _ ix _ => n - (intOf ix).toNat)
  case atStart => exact ⟨0, [], [], p, en, by omega, rfl, rfl, World.ownsRow_nil _ _ _ _, OwnR.nil _ _, HR0.out, Kp.refl w hcw hlt, LoopS.start⟩
  case round =>
    obtain ⟨wo, hwo⟩ : ∃ wo : World, wr = wo := ⟨_, rfl⟩
    obtain ⟨k, vs, acc, q, en', hk, rfl, hac, hown, hms, hr, hkp, hls⟩ := hrel
    rw [hwo] at hown hms hr hkp ⊢
    clear hwo
    have b0 : wo.cell? ⟨b, 0, none⟩ = some (.pointer (some ⟨c, 0, none⟩)) := (Lib.cell_of_heap hr.hb _).trans rfl
    have b1 : wo.cell? ⟨b, 1, none⟩ = some (.bool en') := (Lib.cell_of_heap hr.hb _).trans rfl
    have HO := Lib.hid hown
    have HM := Lib.hid hms
    have HR := Lib.hid hr
    have HK := Lib.hid hkp
    have HL := Lib.hid hls
    have HAC := Lib.hid hac
    clear hown hms hr hkp hls hac
    by_cases hlt1 : k < n
    · cases en'
      · have HN1 := Lib.hid (rnum b c da cap bs 1 q 1 false wo HR.out (by omega) (by omega) rfl)
        go_wp2_with fail
        refine HN1.out.mono ?_
        rintro e w1 ⟨x1, q1, e1, rfl, hx1, hr1, hk1, hs1⟩
        have HO1 := Lib.hid (hk1.own HR.out HO.out (by decide) (by decide))
        have HM1 := Lib.hid (HM.out.map fun v m ho => hk1.own HR.out ho (by decide) (by decide))
        have HR1 := Lib.hid hr1
        have HK1 := Lib.hid (HK.out.trans hk1)
        have HS1 := Lib.hid hs1
        obtain ⟨wz, P, hwz, hP⟩ : ∃ wz P, w1.alloc (.cells #[.int .i64 x1, .slice none 0 0, .int .i64 0] 39) = wz ∧ w1.heap.size = P := ⟨_, _, rfl, rfl⟩
        have hbz : Below w1.heap.size w1 wz := by rw [← hwz]; exact (Below.refl _ _).alloc (Nat.le_refl _) _
        have hhz : wz.heap[P]? = some (.cells #[.int .i64 x1, .slice none 0 0, .int .i64 0] 39 (0, 0)) := by rw [← hwz, ← hP]; exact heap_new _ _
        have HRz := Lib.hid (hr1.below hbz)
        have HKz := Lib.hid (hr1.kpOf hbz)
        have HHz := Lib.hid hhz
        have HP := Lib.hid hP
        have Hwz := Lib.hid hwz
        have HN2 := Lib.hid (rnum b c da cap bs 1 q1 1 e1 wz (hr1.below hbz) (by omega) (by omega) rfl)
        clear hx1 hr1 hk1 hs1 HN1 b0 b1 hbz hhz hwz hP
        go_upto_region 6 with fail
        rw [Hwz.out, HP.out]
        clear Hwz
        go_wp2_with fail
        refine HN2.out.mono ?_
        rintro e w2 ⟨x2, q2, e2, rfl, hx2, hr2, hk2, hs2⟩
        have hx2' : x2 < 256 := hx2
        have hPb : P ≠ b := by have := HR1.out.bl; have := HP.out; omega
        have hPc : P ≠ c := by have := HR1.out.cl'; have := HP.out; omega
        have hPz : P < wz.heap.size := (Array.getElem?_eq_some_iff.1 HHz.out).1
        have HH2 := Lib.hid ((hk2.oth P hPz hPb hPc).trans HHz.out)
        have HK2 := Lib.hid (HKz.out.trans hk2)
        have HR2 := Lib.hid hr2
        have HS2 := Lib.hid hs2
        have hcw1 : c ≤ w1.heap.size := by have := HR1.out.cl'; omega
        have hcw2 : c < w1.heap.size := HR1.out.cl'
        have hbw1 : b < w1.heap.size := HR1.out.bl
        have hPw1 : w1.heap.size ≤ P := by have := HP.out; omega
        clear hx2 hr2 hk2 hs2 HN2
        go_wp2_with fail
        go_loopw [8] (fun ix wr => ∃ (j : Nat) (vr : Value) (rs : List Int) (q3 : Nat) (e3 : Bool), j ≤ x2 ∧ ix = .int .i64 ((x2 - j : Nat) : Int) ∧ rs.length = j ∧ wr.heap[P]? = some (.cells #[.int .i64 x1, vr, .int .i64 0] 39 (0, 0)) ∧ wr.ownsRow w1.heap.size 3 1 vr rs.length (intsCells rs) ∧ RdS b c da cap bs q3 e3 wr ∧ Kp b c w1 wr ∧ LoopS intR x2 (bs.drop q2) e2 j rs (bs.drop q3) e3) (fun ix _ => (intOf ix).toNat)
        case atStart => exact ⟨0, .slice none 0 0, [], q2, e2, by omega, rfl, rfl, HH2.out, World.ownsRow_nil _ _ _ _, HR2.out, HK2.out, LoopS.start⟩
        case round =>
          obtain ⟨wi, hwi⟩ : ∃ wi : World, wr = wi := ⟨_, rfl⟩
          obtain ⟨j, vr, rs, q3, e3, hjx, rfl, hsj, hhp, hown3, hr3, hk3, hls3⟩ := hrel
          rw [hwi] at hhp hown3 hr3 hk3 ⊢
          clear hwi
          have b0 : wi.cell? ⟨b, 0, none⟩ = some (.pointer (some ⟨c, 0, none⟩)) := (Lib.cell_of_heap hr3.hb _).trans rfl
          have b1 : wi.cell? ⟨b, 1, none⟩ = some (.bool e3) := (Lib.cell_of_heap hr3.hb _).trans rfl
          have HO3 := Lib.hid hown3
          have HH3 := Lib.hid hhp
          have HR3 := Lib.hid hr3
          have HK3 := Lib.hid hk3
          have HL3 := Lib.hid hls3
          have HSJ := Lib.hid hsj
          clear hown3 hr3 hk3 hls3 hsj
          obtain ⟨m, hm⟩ : ∃ m, x2 - j = m := ⟨_, rfl⟩
          have hmx : m ≤ 255 := by omega
          have HMJ := Lib.hid hm
          by_cases hlt2 : j < x2
          · have hm1 : 1 ≤ m := by omega
            rw [hm]
            clear hm
            cases e3
            · have p1 : wi.cell? ⟨P, 1, none⟩ = some vr := (Lib.cell_of_heap hhp _).trans rfl
              have HN4 : Hid (∀ W, Below wi.heap.size wi W → Calls Tryd.prog 47 #[.pointer (some ⟨b, 0, none⟩), .int .i64 1] W (NumOut b c da cap bs 1 q3 false W)) := Lib.hid (fun W hW => rnum b c da cap bs 1 q3 1 false W (HR3.out.below hW) (by omega) (by omega) rfl)
              obtain ⟨a3, n3, c3, rfl⟩ := own_slice HO3.out
              clear hhp
              have hrl : rs.length ≤ 255 := by have := HSJ.out; omega
              have hPi : P < wi.heap.size := (Array.getElem?_eq_some_iff.1 HH3.out).1
              have hwi : w1.heap.size ≤ wi.heap.size := by omega
              go_wp2_with fail
              go_region_law (first | (refine mstep_append_own rfl (.tmp 38) (.tmp 41) 37 rfl w1.heap.size 3 i1 (.int .i64 0) 1 8 Tryd.underlying37 hj hy0 hy1 hy2 rfl (by decide) _ rs.length _ (by simp [Act.eval]) (ho5.out.alloc _) ⟨w5.heap.size, 0, none⟩ 1 1 [.int .i64 (x5 : Int)] (by simp [Act.eval]) rfl (mcells_new _ [_] _) (one_cell _ rfl) (by unfold maxLen; omega) (by omega) (mle_alloc (by omega) _) ?_; intro v9 w9 hown9 hgrow9; obtain ⟨a9, n9, c9, rfl⟩ := own_slice hown9; have hh9 := block_app hh5.out ho5.out (by decide) hgrow9; have p19 : w9.cell? ⟨P, 1, none⟩ = some (.slice a3 n3 c3) := (Lib.cell_of_heap hh9 _).trans rfl; have f19 := Lib.frozen_of_heap hh9 1; have hg9 := Lib.hid hgrow9; have ho9 := Lib.hid hown9; have hh9h := Lib.hid hh9; clear hgrow9 hown9 hh9) | (go_simp; go_at_call 47; refine (HN4.out _ (Below.drew (Below.refl _ _))).mono ?_; rintro e w5 ⟨x5, q5, e5, rfl, hx5, hr5, hk5d, hs5⟩; have hk5 : Kp b c wi w5 := Kp.trans (HR3.out.kpOf (Below.drew (Below.refl _ _))) hk5d; have p15 : w5.cell? ⟨P, 1, none⟩ = some (.slice a3 n3 c3) := (hk5.cell hPi hPb hPc).trans p1; have ho5 := Lib.hid (hk5.own HR3.out HO3.out (by decide) (by decide)); have hh5 := Lib.hid ((hk5.oth P hPi hPb hPc).trans HH3.out); have hr5h := Lib.hid hr5; have hk5h := Lib.hid hk5; have hs5h := Lib.hid hs5; have hw5 := hk5.below.size; have hP5 : P < w5.heap.size := Nat.lt_of_lt_of_le hPi hw5; clear hx5 hr5 hk5d hk5 hs5))
              all_goals
                go_wp2_with fail
                go_roundw
                case rel =>
                  obtain ⟨hr9, hk9⟩ := RdS.app HR1.out hr5h.out (HK3.out.trans hk5h.out) ho5.out (Nat.le_refl _) (by decide) (by decide) hg9.out
                  obtain ⟨hr9', hk9'⟩ := RdS.new hr9 hk9 hPw1 hbw1 hcw2 1 (.slice a9 n9 c9)
                  exact ⟨j + 1, .slice a9 n9 c9, rs ++ [(x5 : Int)], q5, e5, by omega, by congr 1; have := HMJ.out; omega, by rw [List.length_append, HSJ.out]; rfl, set1_heap hh9h.out _, own_set hh9h.out (mown_cast ho9.out (by simp) (by rw [intsCells_snoc])) (by decide) _ _, hr9', hk9', HL3.out.step hlt2 (Step.int hs5h.out)⟩
                case measure => simp [intOf]; omega
            · have HNx := Lib.hid (rnum b c da cap bs 1 q3 1 true wi HR3.out (by omega) (by omega) rfl)
              have HST := Lib.hid (HL3.out.stop (Or.inr rfl))
              have hPi : P < wi.heap.size := (Array.getElem?_eq_some_iff.1 HH3.out).1
              obtain ⟨a3, n3, c3, rfl⟩ := own_slice HO3.out
              clear hhp
              go_wp2_with fail
              refine HNx.out.mono ?_
              rintro e w4 ⟨x4, q4, e4, rfl, hx4, hr4, hk4, hs4⟩
              have hx4' : x4 < 256 := hx4
              have hh4 := (hk4.oth P hPi hPb hPc).trans HH3.out
              have hk14 := HK3.out.trans hk4
              have ho4 := hk4.own HR3.out HO3.out (by decide) (by decide)
              have f42 := Lib.frozen_of_heap hh4 2
              obtain ⟨w5, hw5⟩ : ∃ w5, w4.setCell ⟨P, 2, none⟩ (.int .i64 ((x4 : Int) - 1)) = w5 := ⟨_, rfl⟩
              obtain ⟨hr5, hk5⟩ := RdS.new hr4 hk14 hPw1 hbw1 hcw2 2 (.int .i64 ((x4 : Int) - 1))
              have hh5 := set2_heap hh4 (.int .i64 ((x4 : Int) - 1))
              have ho5 := own_set hh4 ho4 (by decide) 2 (.int .i64 ((x4 : Int) - 1))
              rw [hw5] at hr5 hk5 hh5 ho5
              have c42 : w4.cell? ⟨P, 2, none⟩ = some (.int .i64 0) := (Lib.cell_of_heap hh4 _).trans rfl
              have HOa := Lib.hid (hk5.own HR1.out HO1.out (by decide) (by decide))
              have HMa := Lib.hid (OwnR.snoc (m := ⟨x1, rs, (x4 : Int) - 1⟩) HM1.out (fun v m ho => hk5.own HR1.out ho (by decide) (by decide)) ho5 HK1.out.below.size (Nat.le_refl _))
              have HKa := Lib.hid (HK1.out.trans hk5)
              have HR5 := Lib.hid hr5
              have HS4 := Lib.hid hs4
              have HW5 := Lib.hid hw5
              have p50 : w5.cell? ⟨P, 0, none⟩ = some (.int .i64 x1) := (Lib.cell_of_heap hh5 _).trans rfl
              have p51 : w5.cell? ⟨P, 1, none⟩ = some (.slice a3 n3 c3) := (Lib.cell_of_heap hh5 _).trans rfl
              have p52 : w5.cell? ⟨P, 2, none⟩ = some (.int .i64 ((x4 : Int) - 1)) := (Lib.cell_of_heap hh5 _).trans rfl
              have hkb : acc.length ≤ 65535 := by have := HAC.out; omega
              clear hx4 hr4 hk4 hs4 hh4 hk14 ho4 hr5 hk5 hh5 ho5 HNx hw5 b0 b1
              go_upto_region 11 with fail
              rw [HW5.out]
              clear HW5 f42 c42
              go_wp2_with (first | (at_builtin; refine wpList_append_own _ rfl (.tmp 48) (.tmp 50) 26 rfl w.heap.size 39 i0 (.agg #[.int .i64 0, .slice none 0 0, .int .i64 0]) 3 40 Tryd.underlying26 hi hz0 hz1 hz2 rfl (by decide) _ acc.length _ rfl (HOa.out.alloc _) ⟨w5.heap.size, 0, none⟩ 1 1 [.int .i64 x1, .slice a3 n3 c3, .int .i64 ((x4 : Int) - 1)] rfl rfl (mcells_new _ [_, _, _] _) (spec_one _ _ _ _ _) (by unfold maxLen; omega) (by omega) (by rw [World.size_alloc]; have := HKa.out.below.size; omega) ?_; intro v' w9 hown9 hgrow _; have HG := Lib.hid hgrow; clear hgrow))
              obtain ⟨hr9, hk9⟩ := RdS.app HR0.out HR5.out HKa.out HOa.out (Nat.le_refl _) (by decide) (by decide) HG.out
              have HM9 := HMa.out.map fun v m ho => mown_other ho HOa.out (by decide) HG.out
              go_roundw
              case rel => exact ⟨k + 1, vs ++ [.slice a3 n3 c3], acc ++ [⟨x1, rs, (x4 : Int) - 1⟩], q4, e4, by omega, by go_num, by rw [List.length_append, HAC.out]; rfl, mown_cast hown9 (by simp) (by rw [specCells_snoc _ _ _ _ HM.out.len]), HM9, hr9, hk9, HL.out.step hlt1 (Step.spec HS1.out HS2.out HST.out HS4.out)⟩
              case measure => simp [intOf]; omega
          · have hm1 : m = 0 := by omega
            rw [hm]
            clear hm
            subst hm1
            have HNx := Lib.hid (rnum b c da cap bs 1 q3 1 e3 wi HR3.out (by omega) (by omega) rfl)
            have HST := Lib.hid (HL3.out.stop (Or.inl (by omega)))
            have hPi : P < wi.heap.size := (Array.getElem?_eq_some_iff.1 HH3.out).1
            obtain ⟨a3, n3, c3, rfl⟩ := own_slice HO3.out
            clear hhp
            go_wp2_with fail
            refine HNx.out.mono ?_
            rintro e w4 ⟨x4, q4, e4, rfl, hx4, hr4, hk4, hs4⟩
            have hx4' : x4 < 256 := hx4
            have hh4 := (hk4.oth P hPi hPb hPc).trans HH3.out
            have hk14 := HK3.out.trans hk4
            have ho4 := hk4.own HR3.out HO3.out (by decide) (by decide)
            have f42 := Lib.frozen_of_heap hh4 2
            obtain ⟨w5, hw5⟩ : ∃ w5, w4.setCell ⟨P, 2, none⟩ (.int .i64 ((x4 : Int) - 1)) = w5 := ⟨_, rfl⟩
            obtain ⟨hr5, hk5⟩ := RdS.new hr4 hk14 hPw1 hbw1 hcw2 2 (.int .i64 ((x4 : Int) - 1))
            have hh5 := set2_heap hh4 (.int .i64 ((x4 : Int) - 1))
            have ho5 := own_set hh4 ho4 (by decide) 2 (.int .i64 ((x4 : Int) - 1))
            rw [hw5] at hr5 hk5 hh5 ho5
            have c42 : w4.cell? ⟨P, 2, none⟩ = some (.int .i64 0) := (Lib.cell_of_heap hh4 _).trans rfl
            have HOa := Lib.hid (hk5.own HR1.out HO1.out (by decide) (by decide))
            have HMa := Lib.hid (OwnR.snoc (m := ⟨x1, rs, (x4 : Int) - 1⟩) HM1.out (fun v m ho => hk5.own HR1.out ho (by decide) (by decide)) ho5 HK1.out.below.size (Nat.le_refl _))
            have HKa := Lib.hid (HK1.out.trans hk5)
            have HR5 := Lib.hid hr5
            have HS4 := Lib.hid hs4
            have HW5 := Lib.hid hw5
            have p50 : w5.cell? ⟨P, 0, none⟩ = some (.int .i64 x1) := (Lib.cell_of_heap hh5 _).trans rfl
            have p51 : w5.cell? ⟨P, 1, none⟩ = some (.slice a3 n3 c3) := (Lib.cell_of_heap hh5 _).trans rfl
            have p52 : w5.cell? ⟨P, 2, none⟩ = some (.int .i64 ((x4 : Int) - 1)) := (Lib.cell_of_heap hh5 _).trans rfl
            have hkb : acc.length ≤ 65535 := by have := HAC.out; omega
            clear hx4 hr4 hk4 hs4 hh4 hk14 ho4 hr5 hk5 hh5 ho5 HNx hw5 b0 b1
            go_upto_region 11 with fail
            rw [HW5.out]
            clear HW5 f42 c42
            go_wp2_with (first | (at_builtin; refine wpList_append_own _ rfl (.tmp 48) (.tmp 50) 26 rfl w.heap.size 39 i0 (.agg #[.int .i64 0, .slice none 0 0, .int .i64 0]) 3 40 Tryd.underlying26 hi hz0 hz1 hz2 rfl (by decide) _ acc.length _ rfl (HOa.out.alloc _) ⟨w5.heap.size, 0, none⟩ 1 1 [.int .i64 x1, .slice a3 n3 c3, .int .i64 ((x4 : Int) - 1)] rfl rfl (mcells_new _ [_, _, _] _) (spec_one _ _ _ _ _) (by unfold maxLen; omega) (by omega) (by rw [World.size_alloc]; have := HKa.out.below.size; omega) ?_; intro v' w9 hown9 hgrow _; have HG := Lib.hid hgrow; clear hgrow))
            obtain ⟨hr9, hk9⟩ := RdS.app HR0.out HR5.out HKa.out HOa.out (Nat.le_refl _) (by decide) (by decide) HG.out
            have HM9 := HMa.out.map fun v m ho => mown_other ho HOa.out (by decide) HG.out
            go_roundw
            case rel => exact ⟨k + 1, vs ++ [.slice a3 n3 c3], acc ++ [⟨x1, rs, (x4 : Int) - 1⟩], q4, e4, by omega, by go_num, by rw [List.length_append, HAC.out]; rfl, mown_cast hown9 (by simp) (by rw [specCells_snoc _ _ _ _ HM.out.len]), HM9, hr9, hk9, HL.out.step hlt1 (Step.spec HS1.out HS2.out HST.out HS4.out)⟩
            case measure => simp [intOf]; omega
      · go_wp2_with fail
        go_ret
        exact ⟨_, vs, acc, q, true, rfl, HO.out, HM.out, HR.out, HK.out, HL.out.stop (Or.inr rfl)⟩
    · go_wp2_with fail
      go_ret
      exact ⟨_, vs, acc, q, en', rfl, HO.out, HM.out, HR.out, HK.out, HL.out.stop (Or.inl (by omega))⟩
end Go.Proofs.YtaijdpckkobofaaDoor
