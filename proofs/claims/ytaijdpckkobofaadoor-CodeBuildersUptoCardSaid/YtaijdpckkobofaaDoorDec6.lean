/- A reader with a flag: routes. -/
import Derived.Test.YtaijdpckkobofaaDoorDec5
namespace Go.Proofs.YtaijdpckkobofaaDoor
open Go.RowKit
set_option linter.unusedVariables false

def PStop.cells (s : PStop) : List Value := [.string ⟨s.name.toArray⟩, .int .i64 s.delay, .int .i64 s.flags]
def stopsCells (l : List PStop) : List Value := l.flatMap PStop.cells
theorem stopsCells_snoc (l : List PStop) (i : PStop) : stopsCells (l ++ [i]) = stopsCells l ++ i.cells := by simp [stopsCells]
theorem stop_one (a : ByteArray) (b c : Int) : ∀ u ∈ [Value.string a, .int .i64 b, .int .i64 c], u.oneCell' = true := fun u hu => by
  simp at hu
  rcases hu with rfl | rfl | rfl <;> rfl
theorem info_stop : (Tryd.prog.info? 64).map (fun i => (i.zero, i.size, i.bytes)) = some (some (.agg #[.string ⟨#[]⟩, .int .i64 0, .int .i64 0]), 3, 32) := by kernel_rfl
theorem info_slstop : (Tryd.prog.info? 36).map (fun i => (i.zero, i.size, i.bytes)) = some (some (.slice none 0 0), 1, 24) := by kernel_rfl
abbrev OwnRs := OwnR (α := List PStop) 64 3 List.length stopsCells

/-- string(b) of an owned row of bytes -/
theorem mconv_own {w : World} {B : Nat} {v : Value} {n : Nat} {l : List UInt8} (h : w.ownsRow B 5 1 v n (Lib.byteCells l)) : (convert 35 9 v).run Tryd.prog w = .ok (.string ⟨l.toArray⟩) w := by
  have hl := h.1
  rcases h.2 with ⟨rfl, hn⟩ | ⟨g, cap, cur, rfl, hg, hh, hnc, hcm, hcs, htk⟩
  · have : l = [] := List.eq_nil_of_length_eq_zero (by simp [Lib.byteCells] at hl; omega)
    subst this
    have := run_convert_bytes_nil (P := Tryd.prog) w 35 5 Tryd.underlying35 Tryd.underlying5 0 0 9 Tryd.underlying9
    exact this
  · have hll : l.length = n := by simp [Lib.byteCells] at hl; omega
    subst hll
    refine run_convert_bytes_back (P := Tryd.prog) w 35 9 5 ⟨g, 0, none⟩ cap l Tryd.underlying35 Tryd.underlying5 Tryd.underlying9 ?_
    intro j hj
    refine h.cells (g := g) rfl j _ ?_
    simp [Lib.byteCells, hj]

def RoutesOut (b c : Nat) (da : Option Addr) (cap : Nat) (bs : List UInt8) (n p : Nat) (en : Bool) (w : World) (e : Ending) (w' : World) : Prop :=
  ∃ (v : Value) (vs : List Value) (acc : List (List PStop)) (q : Nat) (en' : Bool), e = .returned v ∧ w'.ownsRow w.heap.size 36 1 v vs.length vs ∧ OwnRs w.heap.size w' vs acc ∧ RdS b c da cap bs q en' w' ∧ Kp b c w w' ∧ Step en (moreR routeR n [] (bs.drop p)) en' acc (bs.drop q)

set_option maxRecDepth 100000 in
set_option maxHeartbeats 2000000 in
theorem rroutes (b c : Nat) (da : Option Addr) (cap : Nat) (bs : List UInt8) (n p : Nat) (en : Bool) (w : World) (h : RdS b c da cap bs p en w) (hn : n ≤ 65535) :
    Calls Tryd.prog 50 #[.pointer (some ⟨b, 0, none⟩), .int .i64 n] w (RoutesOut b c da cap bs n p en w) := by
  obtain ⟨i0, hi, hz0, hz1, hz2⟩ := info_parts info_slstop
  obtain ⟨i1, hj, hy0, hy1, hy2⟩ := info_parts info_stop
  have HR0 := Lib.hid h
  have hcw : c ≤ w.heap.size := by have := h.cl'; omega
  have hlt := h.lt
  clear h
  go_enter Tryd.func50, Tryd.ntmps50
  go_wp2_with fail
  go_loopw [5, 6] (fun v ix wr => ∃ (k : Nat) (vs : List Value) (acc : List (List PStop)) (q : Nat) (en' : Bool), k ≤ n ∧ ix = .int .i64 k ∧ acc.length = k ∧ wr.ownsRow w.heap.size 36 1 v vs.length vs ∧ OwnRs w.heap.size wr vs acc ∧ RdS b c da cap bs q en' wr ∧ Kp b c w wr ∧ LoopS routeR n (bs.drop p) en k acc (bs.drop q) en') (fun _ ix _ => n - (intOf ix).toNat)
  case atStart => exact ⟨0, [], [], p, en, by omega, rfl, rfl, World.ownsRow_nil _ _ _ _, OwnR.nil _ _, HR0.out, Kp.refl w hcw hlt, LoopS.start⟩
  case round =>
    obtain ⟨wo, hwo⟩ : ∃ wo : World, wr = wo := ⟨_, rfl⟩
    obtain ⟨k, vs, acc, q, en', hk, rfl, hac, hown, hms, hr, hkp, hls⟩ := hrel
    rw [hwo] at hown hms hr hkp ⊢
    clear hwo
    have b0 : wo.cell? ⟨b, 0, none⟩ = some (.pointer (some ⟨c, 0, none⟩)) := (Lib.cell_of_heap hr.hb _).trans rfl
    have b1 : wo.cell? ⟨b, 1, none⟩ = some (.bool en') := (Lib.cell_of_heap hr.hb _).trans rfl
    have HO := Lib.hid hown
    have HM := Lib.hid hms
    have HR := Lib.hid hr
    have HK := Lib.hid hkp
    have HL := Lib.hid hls
    have HAC := Lib.hid hac
    clear hown hms hr hkp hls hac
    by_cases hlt1 : k < n
    · cases en'
      · have HN1 := Lib.hid (rnum b c da cap bs 1 q 1 false wo HR.out (by omega) (by omega) rfl)
        go_wp2_with fail
        refine HN1.out.mono ?_
        rintro e w1 ⟨x1, q1, e1, rfl, hx1, hr1, hk1, hs1⟩
        have hx1' : x1 < 256 := hx1
        have HO1 := Lib.hid (hk1.own HR.out HO.out (by decide) (by decide))
        have HM1 := Lib.hid (HM.out.map fun v m ho => hk1.own HR.out ho (by decide) (by decide))
        have HR1 := Lib.hid hr1
        have HK1 := Lib.hid (HK.out.trans hk1)
        have HS1 := Lib.hid hs1
        have hcw1 : c ≤ w1.heap.size := by have := hr1.cl'; omega
        clear hx1 hr1 hk1 hs1 HN1 b0 b1
        go_wp2_with fail
        go_loopw [7, 8] (fun v ix wr' => ∃ (j : Nat) (ss : List PStop) (q2 : Nat) (e2 : Bool), j ≤ x1 ∧ ix = .int .i64 ((x1 - j : Nat) : Int) ∧ ss.length = j ∧ wr'.ownsRow w1.heap.size 64 3 v ss.length (stopsCells ss) ∧ RdS b c da cap bs q2 e2 wr' ∧ Kp b c w1 wr' ∧ LoopS stopR x1 (bs.drop q1) e1 j ss (bs.drop q2) e2) (fun _ ix _ => (intOf ix).toNat)
        case atStart => exact ⟨0, [], q1, e1, by omega, rfl, rfl, World.ownsRow_nil _ _ _ _, HR1.out, Kp.refl w1 hcw1 hlt, LoopS.start⟩
        case round =>
          obtain ⟨wi, hwi⟩ : ∃ wi : World, wr = wi := ⟨_, rfl⟩
          obtain ⟨j, ss, q2, e2, hjx, rfl, hsj, hown2, hr2, hk2, hls2⟩ := hrel
          rw [hwi] at hown2 hr2 hk2 ⊢
          clear hwi
          have b0 : wi.cell? ⟨b, 0, none⟩ = some (.pointer (some ⟨c, 0, none⟩)) := (Lib.cell_of_heap hr2.hb _).trans rfl
          have b1 : wi.cell? ⟨b, 1, none⟩ = some (.bool e2) := (Lib.cell_of_heap hr2.hb _).trans rfl
          have HO2 := Lib.hid hown2
          have HR2 := Lib.hid hr2
          have HK2 := Lib.hid hk2
          have HL2 := Lib.hid hls2
          have HSJ := Lib.hid hsj
          clear hown2 hr2 hk2 hls2 hsj
          obtain ⟨m, hm⟩ : ∃ m, x1 - j = m := ⟨_, rfl⟩
          have hmx : m ≤ 255 := by omega
          have HMJ := Lib.hid hm
          by_cases hlt2 : j < x1
          · have hm1 : 1 ≤ m := by omega
            rw [hm]
            clear hm
            cases e2
            · have HN3 := Lib.hid (rnum b c da cap bs 1 q2 1 false wi HR2.out (by omega) (by omega) rfl)
              go_wp2_with fail
              refine HN3.out.mono ?_
              rintro e w3 ⟨x3, q3, e3, rfl, hx3, hr3, hk3, hs3⟩
              have HN4 := Lib.hid (rtake b c da cap bs x3 q3 e3 w3 hr3)
              have HO3 := Lib.hid (hk3.own HR2.out HO2.out (by decide) (by decide))
              have HR3 := Lib.hid hr3
              have HK3 := Lib.hid (HK2.out.trans hk3)
              have HS3 := Lib.hid hs3
              clear hx3 hr3 hk3 hs3 HN3
              go_wp2_with fail
              refine HN4.out.mono ?_
              rintro e w4 ⟨v4, x4, q4, e4, rfl, hv4, hr4, hk4, hs4⟩
              have HN5 := Lib.hid (rnum b c da cap bs 4 q4 4 e4 w4 hr4 (by omega) (by omega) rfl)
              have HO4 := Lib.hid (hk4.own HR3.out HO3.out (by decide) (by decide))
              have HR4 := Lib.hid hr4
              have HK4 := Lib.hid (HK3.out.trans hk4)
              have HS4 := Lib.hid hs4
              have hcv := mconv_own hv4
              obtain ⟨a4, n4, c4, rfl⟩ := own_slice hv4
              clear hv4 hr4 hk4 hs4 HN4
              go_wp2_with fail
              refine HN5.out.mono ?_
              rintro e w5 ⟨x5, q5, e5, rfl, hx5, hr5, hk5, hs5⟩
              have HN6 := Lib.hid (rnum b c da cap bs 1 q5 1 e5 w5 hr5 (by omega) (by omega) rfl)
              have HO5 := Lib.hid (hk5.own HR4.out HO4.out (by decide) (by decide))
              have HR5 := Lib.hid hr5
              have HK5 := Lib.hid (HK4.out.trans hk5)
              have HS5 := Lib.hid hs5
              clear hx5 hr5 hk5 hs5 HN5 hcv
              go_wp2_with fail
              refine HN6.out.mono ?_
              rintro e w6 ⟨x6, q6, e6, rfl, hx6, hr6, hk6, hs6⟩
              have HO6 := Lib.hid (hk6.own HR5.out HO5.out (by decide) (by decide))
              have HR6 := Lib.hid hr6
              have HK6 := Lib.hid (HK5.out.trans hk6)
              have HS6 := Lib.hid hs6
              have hssl : ss.length ≤ 255 := by have := HSJ.out; omega
              clear hx6 hr6 hk6 hs6 HN6
              go_wp2_with (first | (at_builtin; refine wpList_append_own _ rfl (.tmp 43) (.tmp 49) 36 rfl w1.heap.size 64 i1 (.agg #[.string ⟨#[]⟩, .int .i64 0, .int .i64 0]) 3 32 Tryd.underlying36 hj hy0 hy1 hy2 rfl (by decide) _ ss.length _ rfl (HO6.out.alloc _) ⟨w6.heap.size, 0, none⟩ 1 1 [.string _, .int .i64 _, .int .i64 _] rfl rfl (mcells_new _ [_, _, _] _) (stop_one _ _ _) (by unfold maxLen; omega) (by omega) (by rw [World.size_alloc]; have := HK6.out.below.size; omega) ?_; intro v' w9 hown9 hgrow _; have HG := Lib.hid hgrow; clear hgrow))
              obtain ⟨hr9, hk9⟩ := RdS.app HR1.out HR6.out HK6.out HO6.out (Nat.le_refl _) (by decide) (by decide) HG.out
              go_roundw
              case rel => exact ⟨j + 1, ss ++ [⟨x4, x5, x6⟩], q6, e6, by omega, by congr 1; have := HMJ.out; omega, by rw [List.length_append, HSJ.out]; rfl, mown_cast hown9 (by simp) (by rw [stopsCells_snoc]; rfl), hr9, hk9, HL2.out.step hlt2 (Step.stop HS3.out HS4.out HS5.out HS6.out)⟩
              case measure => simp [intOf]; omega
            · have HST := Lib.hid (HL2.out.stop (Or.inr rfl))
              obtain ⟨a2, n2, c2, rfl⟩ := own_slice HO2.out
              have HSL := Lib.hid (sl_one HO2.out)
              have HOa := Lib.hid (HK2.out.own HR1.out HO1.out (by decide) (by decide))
              have HMa := Lib.hid (HM1.out.snoc (fun v m ho => HK2.out.own HR1.out ho (by decide) (by decide)) HO2.out HK1.out.below.size (Nat.le_refl _))
              have HKa := Lib.hid (HK1.out.trans HK2.out)
              have hkb : vs.length ≤ 65535 := by have := HAC.out; have := HM.out.len; omega
              go_wp2_with (first | (at_builtin; refine wpList_append_own _ rfl (.tmp 51) (.tmp 53) 25 rfl w.heap.size 36 i0 (.slice none 0 0) 1 24 Tryd.underlying25 hi hz0 hz1 hz2 rfl (by decide) _ vs.length _ rfl (HOa.out.alloc _) ⟨wi.heap.size, 0, none⟩ 1 1 [.slice a2 n2 c2] rfl rfl (mcells_new _ [_] _) HSL.out (by unfold maxLen; omega) (by omega) (by rw [World.size_alloc]; have := HKa.out.below.size; omega) ?_; intro v' w9 hown9 hgrow _; have HG := Lib.hid hgrow; clear hgrow))
              obtain ⟨hr9, hk9⟩ := RdS.app HR0.out HR2.out HKa.out HOa.out (Nat.le_refl _) (by decide) (by decide) HG.out
              have HM9 := HMa.out.map fun v m ho => mown_other ho HOa.out (by decide) HG.out
              go_roundw
              case rel => exact ⟨k + 1, vs ++ [.slice a2 n2 c2], acc ++ [ss], q2, true, by omega, by go_num, by rw [List.length_append, HAC.out]; rfl, mown_cast hown9 (by simp) rfl, HM9, hr9, hk9, HL.out.step hlt1 (Step.route HS1.out HST.out)⟩
              case measure => simp [intOf]; omega
          · have hm1 : m = 0 := by omega
            rw [hm]
            clear hm
            subst hm1
            have HST := Lib.hid (HL2.out.stop (Or.inl (by omega)))
            obtain ⟨a2, n2, c2, rfl⟩ := own_slice HO2.out
            have HSL := Lib.hid (sl_one HO2.out)
            have HOa := Lib.hid (HK2.out.own HR1.out HO1.out (by decide) (by decide))
            have HMa := Lib.hid (HM1.out.snoc (fun v m ho => HK2.out.own HR1.out ho (by decide) (by decide)) HO2.out HK1.out.below.size (Nat.le_refl _))
            have HKa := Lib.hid (HK1.out.trans HK2.out)
            have hkb : vs.length ≤ 65535 := by have := HAC.out; have := HM.out.len; omega
            go_wp2_with (first | (at_builtin; refine wpList_append_own _ rfl (.tmp 51) (.tmp 53) 25 rfl w.heap.size 36 i0 (.slice none 0 0) 1 24 Tryd.underlying25 hi hz0 hz1 hz2 rfl (by decide) _ vs.length _ rfl (HOa.out.alloc _) ⟨wi.heap.size, 0, none⟩ 1 1 [.slice a2 n2 c2] rfl rfl (mcells_new _ [_] _) HSL.out (by unfold maxLen; omega) (by omega) (by rw [World.size_alloc]; have := HKa.out.below.size; omega) ?_; intro v' w9 hown9 hgrow _; have HG := Lib.hid hgrow; clear hgrow))
            obtain ⟨hr9, hk9⟩ := RdS.app HR0.out HR2.out HKa.out HOa.out (Nat.le_refl _) (by decide) (by decide) HG.out
            have HM9 := HMa.out.map fun v m ho => mown_other ho HOa.out (by decide) HG.out
            go_roundw
            case rel => exact ⟨k + 1, vs ++ [.slice a2 n2 c2], acc ++ [ss], q2, e2, by omega, by go_num, by rw [List.length_append, HAC.out]; rfl, mown_cast hown9 (by simp) rfl, HM9, hr9, hk9, HL.out.step hlt1 (Step.route HS1.out HST.out)⟩
            case measure => simp [intOf]; omega
      · go_wp2_with fail
        go_ret
        exact ⟨_, vs, acc, q, true, rfl, HO.out, HM.out, HR.out, HK.out, HL.out.stop (Or.inr rfl)⟩
    · go_wp2_with fail
      go_ret
      exact ⟨_, vs, acc, q, en', rfl, HO.out, HM.out, HR.out, HK.out, HL.out.stop (Or.inl (by omega))⟩
end Go.Proofs.YtaijdpckkobofaaDoor
