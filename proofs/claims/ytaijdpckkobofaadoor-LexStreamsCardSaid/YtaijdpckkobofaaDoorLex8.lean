/- lex: escape. -/
import Derived.Test.YtaijdpckkobofaaDoorLex7b
namespace Go.Proofs.YtaijdpckkobofaaDoor
open Go.RowKit
set_option linter.unusedVariables false

set_option maxRecDepth 100000 in
set_option maxHeartbeats 2000000 in
theorem escape_any (t : ByteArray) (w : World) (ht : t.size ≤ 8000) (hg : LexW w) :
    Calls Tryd.prog 134 #[.string t] w fun e w' => e = .returned (escV (escOf t 0)) ∧ Below w.heap.size w w' := by
  by_cases hs : t.size < 2
  · rw [escOf_short hs]
    go_enter Tryd.func134, Tryd.ntmps134
    go_wp2_with fail
    go_ret2
    exact ⟨rfl, Below.refl _ _⟩
  · obtain ⟨u, hu, hb, hu8⟩ := byteAt_some (show 1 < t.size by omega)
    have Hb := Lib.hid hb
    clear hb
    by_cases h34 : u = 34
    · subst h34
      rw [escOf_same hs (Or.inl Hb.out), Hb.out]
      go_enter Tryd.func134, Tryd.ntmps134
      go_wp2_with fail
      go_ret2
      exact ⟨rfl, Below.refl _ _⟩
    · by_cases h92 : u = 92
      · subst h92
        rw [escOf_same hs (Or.inr Hb.out), Hb.out]
        go_enter Tryd.func134, Tryd.ntmps134
        go_wp2_with fail
        go_ret2
        exact ⟨rfl, Below.refl _ _⟩
      · by_cases h110 : u = 110
        · subst h110
          rw [escOf_n hs Hb.out]
          go_enter Tryd.func134, Tryd.ntmps134
          go_wp2_with fail
          go_ret2
          exact ⟨rfl, Below.refl _ _⟩
        · by_cases h120 : u = 120
          · subst h120
            by_cases h4 : t.size < 4
            · rw [escOf_no (by rw [Hb.out]; decide) (by rw [Hb.out]; decide) (by rw [Hb.out]; decide) (Or.inr h4)]
              have hd4 : decide ((t.size : Int) < 4) = true := by simp; omega
              go_enter Tryd.func134, Tryd.ntmps134
              go_wp2_with fail
              go_quiet (fail)
              go_wp2_with fail
              go_ret2
              exact ⟨rfl, below_drewN (Below.refl _ _) _⟩
            · rw [escOf_x h4 Hb.out]
              obtain ⟨ht2, u2, v2, he, e2, e3⟩ := extract24 h4
              rw [e2, e3, ← esc_hex, ← he]
              obtain ⟨t2, hx⟩ : ∃ t2, t.extract 2 4 = t2 := ⟨_, rfl⟩
              rw [hx] at ht2 ⊢
              have H2 := Lib.hid ht2
              have h4' : (4 : Int) ≤ (t.size : Int) := by omega
              have hd4 : decide ((t.size : Int) < 4) = false := by simp; omega
              obtain ⟨lb, hlb⟩ : ∃ lb : ByteArray, (⟨(Lib.toLowerD t2.data.toList).toArray⟩ : ByteArray) = lb := ⟨_, rfl⟩
              have hlb' : lb.data.toList = Lib.toLowerD t2.data.toList := by rw [← hlb]
              have HL : Hid (Calls Tryd.prog 146 #[.string t2] w.drew fun e w' => e = .returned (.string lb) ∧ Below w.drew.heap.size w.drew w') := Lib.hid (by rw [← hlb]; exact toLower_any t2 w.drew (hg.below (Below.drew (Below.refl _ _))) (by omega))
              rw [← hlb']
              clear he e2 e3 ht2 hlb hlb'
              by_cases hsame : lb.data.toList = t2.data.toList
              · rw [if_pos hsame]
                have hsame' : lb = t2 := ba_ext hsame
                subst hsame'
                clear hsame
                have HF : Hid (hexFrom 0 lb.data.toList = hexFrom 0 lb.data.toList) := rfl
                generalize hex : hexFrom 0 lb.data.toList = res at HF ⊢
                have Hex := Lib.hid hex
                clear hex HF
                have hS1 : AnyW w := rfl
                have hS2 : AnyW w.drew := rfl
                go_enter Tryd.func134, Tryd.ntmps134
                go_upto_region 10 with fail
                go_cut [30] (fun s30 wx => s30 = .bool false ∧ Below w.heap.size w wx)
                case first =>
                  go_region_held3 (fun w' => AnyW w') (exact (rfl : _ = _)) (first | (go_at_call 146; refine HL.out.mono ?_; rintro e w2 ⟨rfl, hb2⟩))
                  all_goals (go_wp2_with fail; go_meet; exact ⟨rfl, Below.trans (Below.drew (Below.refl _ _)) hb2⟩)
                case rest =>
                  obtain ⟨rfl, hbc⟩ := hcut
                  have hgc := hg.below hbc
                  have HG := Lib.hid hgc
                  have HB := Lib.hid hbc
                  clear hgc hbc
                  cases res with
                  | none =>
                    go_wp2_with fail
                    refine (parseP_bad lb H2.out Hex.out _ HG.out).mono ?_
                    rintro e w3 ⟨T, N, rfl, hb3⟩
                    have HB3 := Lib.hid hb3
                    clear hb3
                    go_wp2_with fail
                    go_ret2
                    exact ⟨rfl, HB.out.trans (HB3.out.mono HB.out.size)⟩
                  | some n =>
                    go_wp2_with fail
                    refine (parseP_ok lb H2.out n Hex.out _).mono ?_
                    rintro e w3 ⟨rfl, hb3⟩
                    have HB3 := Lib.hid hb3
                    clear hb3
                    have hn8 : n < 256 := hexFrom_lt H2.out Hex.out
                    go_wp2_with fail
                    go_ret2
                    exact ⟨rfl, HB.out.trans (HB3.out.mono HB.out.size)⟩
              · rw [if_neg hsame]
                have hne := toList_ne hsame
                clear hsame
                have hS1 : AnyW w := rfl
                have hS2 : AnyW w.drew := rfl
                go_enter Tryd.func134, Tryd.ntmps134
                go_upto_region 10 with fail
                go_cut [30] (fun s30 wx => s30 = .bool true ∧ Below w.heap.size w wx)
                case first =>
                  go_region_held3 (fun w' => AnyW w') (exact (rfl : _ = _)) (first | (go_at_call 146; refine HL.out.mono ?_; rintro e w2 ⟨rfl, hb2⟩))
                  all_goals (go_wp2_with fail; go_meet; exact ⟨rfl, Below.trans (Below.drew (Below.refl _ _)) hb2⟩)
                case rest =>
                  obtain ⟨rfl, hbc⟩ := hcut
                  go_wp2_with fail
                  go_ret2
                  exact ⟨rfl, hbc⟩
          · rw [escOf_no (by rw [Hb.out]; exact h34) (by rw [Hb.out]; exact h92) (by rw [Hb.out]; exact h110) (Or.inl (by rw [Hb.out]; exact h120))]
            have e1 : ((u : Int) == 34) = false := by rw [beq_eq_false_iff_ne]; omega
            have e2 : ((u : Int) == 92) = false := by rw [beq_eq_false_iff_ne]; omega
            have e3 : ((u : Int) == 110) = false := by rw [beq_eq_false_iff_ne]; omega
            have e4 : ((u : Int) == 120) = false := by rw [beq_eq_false_iff_ne]; omega
            clear h34 h92 h110 h120
            go_enter Tryd.func134, Tryd.ntmps134
            go_wp2_with fail
            go_ret2
            exact ⟨rfl, Below.refl _ _⟩
end Go.Proofs.YtaijdpckkobofaaDoor
