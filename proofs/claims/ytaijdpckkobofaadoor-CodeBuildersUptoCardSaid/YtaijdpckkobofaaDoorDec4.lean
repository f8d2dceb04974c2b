/- A reader with a flag: instrs. -/
import Derived.Test.YtaijdpckkobofaaDoorDec3
namespace Go.Proofs.YtaijdpckkobofaaDoor
open Go.RowKit
set_option linter.unusedVariables false

def PIns.cells (i : PIns) : List Value := [.int .u8 i.op, .int .i64 i.a, .int .i64 i.b]
def pinsCells (l : List PIns) : List Value := l.flatMap PIns.cells
theorem pinsCells_snoc (l : List PIns) (i : PIns) : pinsCells (l ++ [i]) = pinsCells l ++ i.cells := by simp [pinsCells]
theorem pins_one (a b c : Int) : ∀ u ∈ [Value.int .u8 a, .int .i64 b, .int .i64 c], u.oneCell' = true := fun u hu => by
  simp at hu
  rcases hu with rfl | rfl | rfl <;> rfl
theorem info_pins : (Tryd.prog.info? 33).map (fun i => (i.zero, i.size, i.bytes)) = some (some (.agg #[.int .u8 0, .int .i64 0, .int .i64 0]), 3, 24) := by kernel_rfl
theorem wrap_sgn (n : Nat) (h : n < 4294967296) : IntKind.i32.wrap (n : Int) = sgn32 n := by
  have e : (n : Int) % 2 ^ 32 = n := Int.emod_eq_of_lt (by omega) (by omega)
  unfold sgn32
  simp only [IntKind.wrap, IntKind.bits, IntKind.signed, e]
  by_cases h1 : n < 2147483648
  · rw [if_pos h1, if_neg (by simp; omega)]
  · rw [if_neg h1, if_pos (by simp; omega)]
    rfl
theorem sgn_bd (n : Nat) (h : n < 4294967296) : -2147483648 ≤ sgn32 n ∧ sgn32 n ≤ 2147483647 := by
  unfold sgn32; split <;> omega
theorem rnum (b c : Nat) (da : Option Addr) (cap : Nat) (bs : List UInt8) (k p : Nat) (kI : Int) (en : Bool) (w : World) (h : RdS b c da cap bs p en w) (h1 : 1 ≤ k) (h4 : k ≤ 4) (hk : (k : Int) = kI) :
    Calls Tryd.prog 47 #[.pointer (some ⟨b, 0, none⟩), .int .i64 kI] w (NumOut b c da cap bs k p en w) := by
  subst hk; exact rnumber b c da cap bs k p en w h h1 h4

def InsOut (b c : Nat) (da : Option Addr) (cap : Nat) (bs : List UInt8) (n p : Nat) (en : Bool) (w : World) (e : Ending) (w' : World) : Prop :=
  ∃ (v : Value) (acc : List PIns) (q : Nat) (en' : Bool), e = .returned v ∧ w'.ownsRow w.heap.size 33 3 v acc.length (pinsCells acc) ∧ RdS b c da cap bs q en' w' ∧ Kp b c w w' ∧ Step en (moreR insR n [] (bs.drop p)) en' acc (bs.drop q)

set_option maxRecDepth 100000 in
set_option maxHeartbeats 1000000 in
theorem rinstrs (b c : Nat) (da : Option Addr) (cap : Nat) (bs : List UInt8) (n p : Nat) (en : Bool) (w : World) (h : RdS b c da cap bs p en w) (hn : n ≤ 65535) :
    Calls Tryd.prog 48 #[.pointer (some ⟨b, 0, none⟩), .int .i64 n] w (InsOut b c da cap bs n p en w) := by
  obtain ⟨i0, hi, hz0, hz1, hz2⟩ := info_parts info_pins
  have HR0 := Lib.hid h
  have hcw : c ≤ w.heap.size := by have := h.cl'; omega
  have hlt := h.lt
  clear h
  go_enter Tryd.func48, Tryd.ntmps48
  go_wp2_with fail
  go_loopw [5, 6] (fun v ix wr => ∃ (k : Nat) (acc : List PIns) (q : Nat) (en' : Bool), k ≤ n ∧ ix = .int .i64 k ∧ acc.length = k ∧ wr.ownsRow w.heap.size 33 3 v acc.length (pinsCells acc) ∧ RdS b c da cap bs q en' wr ∧ Kp b c w wr ∧ LoopS insR n (bs.drop p) en k acc (bs.drop q) en') (fun _ ix _ => n - (intOf ix).toNat)
  case atStart => exact ⟨0, [], p, en, by omega, rfl, rfl, World.ownsRow_nil _ _ _ _, HR0.out, Kp.refl w hcw hlt, LoopS.start⟩
  case round =>
    obtain ⟨wo, hwo⟩ : ∃ wo : World, wr = wo := ⟨_, rfl⟩
    obtain ⟨k, acc, q, en', hk, rfl, hac, hown, hr, hkp, hls⟩ := hrel
    rw [hwo] at hown hr hkp ⊢
    clear hwo
    have b0 : wo.cell? ⟨b, 0, none⟩ = some (.pointer (some ⟨c, 0, none⟩)) := (Lib.cell_of_heap hr.hb _).trans rfl
    have b1 : wo.cell? ⟨b, 1, none⟩ = some (.bool en') := (Lib.cell_of_heap hr.hb _).trans rfl
    have HO := Lib.hid hown
    have HR := Lib.hid hr
    have HK := Lib.hid hkp
    have HL := Lib.hid hls
    have HAC := Lib.hid hac
    clear hown hr hkp hls hac
    by_cases hlt1 : k < n
    · cases en'
      · have HN1 := Lib.hid (rnum b c da cap bs 1 q 1 false wo HR.out (by omega) (by omega) rfl)
        go_wp2_with fail
        refine HN1.out.mono ?_
        rintro e w1 ⟨x1, q1, e1, rfl, hx1, hr1, hk1, hs1⟩
        have HN2 := Lib.hid (rnum b c da cap bs 4 q1 4 e1 w1 hr1 (by omega) (by omega) rfl)
        have hx1' : x1 < 256 := hx1
        have HO1 := Lib.hid (hk1.own HR.out HO.out (by decide) (by decide))
        have HR1 := Lib.hid hr1
        have HK1 := Lib.hid (HK.out.trans hk1)
        have HS1 := Lib.hid hs1
        clear hx1 hr1 hk1 hs1 HN1
        go_wp2_with fail
        refine HN2.out.mono ?_
        rintro e w2 ⟨x2, q2, e2, rfl, hx2, hr2, hk2, hs2⟩
        have HN3 := Lib.hid (rnum b c da cap bs 2 q2 2 e2 w2 hr2 (by omega) (by omega) rfl)
        have hx2' : x2 < 4294967296 := hx2
        have HO2 := Lib.hid (hk2.own HR1.out HO1.out (by decide) (by decide))
        have HR2 := Lib.hid hr2
        have HK2 := Lib.hid (HK1.out.trans hk2)
        have HS2 := Lib.hid hs2
        obtain ⟨hg1, hg2⟩ := sgn_bd x2 hx2'
        have hw32 := wrap_sgn x2 hx2'
        obtain ⟨s2, hs2e⟩ : ∃ s2, sgn32 x2 = s2 := ⟨_, rfl⟩
        have HSE := Lib.hid hs2e
        rw [hs2e] at hg1 hg2 hw32
        clear hx2 hr2 hk2 hs2 hs2e HN2
        go_wp2_with fail
        refine HN3.out.mono ?_
        rintro e w3 ⟨x3, q3, e3, rfl, hx3, hr3, hk3, hs3⟩
        have HO3 := Lib.hid (hk3.own HR2.out HO2.out (by decide) (by decide))
        have HR3 := Lib.hid hr3
        have HK3 := Lib.hid (HK2.out.trans hk3)
        have HS3 := Lib.hid hs3
        clear hx3 hr3 hk3 hs3 HN3
        have hkb : acc.length ≤ 65535 := by have := HAC.out; omega
        go_wp2_with (first | (at_builtin; refine wpList_append_own _ rfl (.tmp 28) (.tmp 34) 23 rfl w.heap.size 33 i0 (.agg #[.int .u8 0, .int .i64 0, .int .i64 0]) 3 24 Tryd.underlying23 hi hz0 hz1 hz2 rfl (by decide) _ acc.length _ rfl (HO3.out.alloc _) ⟨w3.heap.size, 0, none⟩ 1 1 [.int .u8 _, .int .i64 _, .int .i64 _] rfl rfl (mcells_new _ [_, _, _] _) (pins_one _ _ _) (by unfold maxLen; omega) (by omega) (by rw [World.size_alloc]; have := HK3.out.below.size; omega) ?_; intro v' w9 hown9 hgrow _; have HG := Lib.hid hgrow; clear hgrow))
        obtain ⟨hr9, hk9⟩ := RdS.app HR0.out HR3.out HK3.out HO3.out (Nat.le_refl _) (by decide) (by decide) HG.out
        go_roundw
        case rel => exact ⟨k + 1, acc ++ [⟨x1, sgn32 x2, x3⟩], q3, e3, by omega, by go_num, by rw [List.length_append, HAC.out]; rfl, mown_cast hown9 (by simp) (by rw [pinsCells_snoc, ← HSE.out]; rfl), hr9, hk9, HL.out.step hlt1 (Step.ins HS1.out HS2.out HS3.out)⟩
        case measure => simp [intOf]; omega
      · go_wp2_with fail
        go_ret
        exact ⟨_, acc, q, true, rfl, HO.out, HR.out, HK.out, HL.out.stop (Or.inr rfl)⟩
    · go_wp2_with fail
      go_ret
      exact ⟨_, acc, q, en', rfl, HO.out, HR.out, HK.out, HL.out.stop (Or.inl (by omega))⟩
end Go.Proofs.YtaijdpckkobofaaDoor
