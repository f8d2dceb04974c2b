/- lex: skip. -/
import Derived.Test.YtaijdpckkobofaaDoorLex2
-- import Mine.Shelf
namespace Go.Proofs.YtaijdpckkobofaaDoor
open Go.RowKit
set_option linter.unusedVariables false

def scanMeas (b : Nat) (s : ByteArray) (w : World) : Nat := s.size - ((w.cell? ⟨b, 1, none⟩).map fun v => (intOf v).toNat).getD 0
theorem scanMeas_eq {B b : Nat} {s : ByteArray} {i : Nat} {l : List Tok} {w : World} (h : IsScan B b s i l w) : scanMeas b s w = s.size - i := by
  unfold scanMeas; rw [h.c1]; simp [intOf]

set_option maxRecDepth 100000 in
set_option maxHeartbeats 1000000 in
theorem skip_any (B b : Nat) (s : ByteArray) (i : Nat) (l : List Tok) (w : World) (h : IsScan B b s i l w) (hi : i ≤ s.size) (hs : s.size < 4611686018427387904) (hBw : B ≤ w.heap.size) :
    Calls Tryd.prog 67 #[.pointer (some ⟨b, 0, none⟩)] w fun e w' => e = .returned (.tuple #[]) ∧ IsScan B b s (skipOf s i) l w' ∧ Ws B b w w' := by
  go_enter Tryd.func67, Tryd.ntmps67
  go_wp2_with fail
  go_loopw [] (fun wr => ∃ k : Nat, k ≤ s.size ∧ IsScan B b s k l wr ∧ skipOf s k = skipOf s i ∧ Ws B b w wr) (fun wr => scanMeas b s wr)
  case atStart => exact ⟨i, hi, h, rfl, Ws.refl _ _ _⟩
  case round =>
    obtain ⟨k, hk, hI, hrun, hW⟩ := hrel
    have Hrun := Lib.hid hrun
    have HI := Lib.hid hI
    have c0 := hI.c0
    have c1 := hI.c1
    have f1 := hI.fz 1
    have HM : Hid (scanMeas b s wr = s.size - k) := Lib.hid (scanMeas_eq hI)
    clear hrun hI h
    by_cases hlt : k < s.size
    · obtain ⟨u, hu, hb, hu8⟩ := byteAt_some hlt
      have Hb := Lib.hid hb
      clear hb
      go_upto_region 0 with fail
      go_cut [11] (fun s11 wx => s11 = .bool true ∧ ∃ n, wx = wr.drewN n)
      case first =>
        go_region
        all_goals (go_wp2_with fail; go_meet; exact ⟨rfl, _, rfl⟩)
      case rest =>
        obtain ⟨rfl, n, rfl⟩ := hcut
        go_upto_region 1 with fail
        go_cut [20] (fun s20 wx => s20 = .int .u8 u ∧ ∃ n, wx = wr.drewN n)
        case first =>
          go_region
          all_goals (go_wp2_with fail; go_meet; exact ⟨rfl, _, rfl⟩)
        case rest =>
          obtain ⟨rfl, n, rfl⟩ := hcut
          have HS1 := Lib.hid (hs)
          by_cases hbl : isBlank u = true
          · have Hbl := Lib.hid hbl
            have hbl' : (u : Int) = 32 ∨ (u : Int) = 9 ∨ (u : Int) = 10 := by simp [isBlank] at hbl; omega
            clear hbl
            rcases hbl' with h1 | h1 | h1
            all_goals
              go_wp2_with fail
              go_roundw
              case rel => exact ⟨k + 1, by omega, by simpa using (HI.out.drewN n).at_ (k + 1), by rw [← Hrun.out, skipOf_blank hlt (by rw [Hb.out]; exact Hbl.out)], by simpa using (hW.drewN n).set HI.out.le 1 _⟩
              case measure =>
                have hh := scanMeas_eq ((HI.out.drewN n).at_ (k + 1))
                rw [HM.out]
                simp at hh ⊢
                rw [hh]; omega
          · have Hbl := Lib.hid hbl
            have hbl' : (u : Int) ≠ 32 ∧ (u : Int) ≠ 9 ∧ (u : Int) ≠ 10 := by simp [isBlank] at hbl; omega
            clear hbl
            obtain ⟨n1, n2, n3⟩ := hbl'
            by_cases h35 : (u : Int) = 35
            · have HW : Hid (Calls Tryd.prog 108 #[.pointer (some ⟨b, 0, none⟩), .int .i64 k, .func (.func 109) #[] #[]] (wr.drewN n) fun e w' => e = .returned (.int .i64 (runOf isLine s k)) ∧ w' = wr.drewN n) := while_isLine b s k (wr.drewN n) c0 hk HS1.out
              go_wp2_with (go_at_call 108; refine (HW.out).mono ?_; rintro e w1 ⟨rfl, rfl⟩)
              go_roundw
              case rel => exact ⟨runOf isLine s k, runOf_le _ _ _ hk, (HI.out.drewN n).at_ _, by rw [← Hrun.out, skipOf_line hlt (by rw [Hb.out]; omega)], (hW.drewN n).set HI.out.le 1 _⟩
              case measure =>
                have hh := scanMeas_eq ((HI.out.drewN n).at_ (runOf isLine s k))
                have hg : k < runOf isLine s k := runOf_gt hlt (by rw [Hb.out]; simp [isLine]; omega)
                rw [HM.out, hh]; omega
            · go_wp2_with fail
              refine bodyPost_ret (results_none rfl _ _ _) rfl ?_
              exact ⟨rfl, by rw [← Hrun.out, skipOf_stop hlt (by rw [Hb.out]; exact Hbl.out) (by rw [Hb.out]; omega)]; exact HI.out.drewN n, hW.drewN n⟩
    · go_upto_region 0 with fail
      go_cut [11] (fun s11 wx => s11 = .bool false ∧ ∃ n, wx = wr.drewN n)
      case first =>
        go_region
        all_goals (go_wp2_with fail; go_meet; exact ⟨rfl, _, rfl⟩)
      case rest =>
        obtain ⟨rfl, n, rfl⟩ := hcut
        go_wp2_with fail
        go_end0
        exact ⟨rfl, by rw [← Hrun.out, skipOf_end hlt]; exact HI.out.drewN n, hW.drewN n⟩
end Go.Proofs.YtaijdpckkobofaaDoor
