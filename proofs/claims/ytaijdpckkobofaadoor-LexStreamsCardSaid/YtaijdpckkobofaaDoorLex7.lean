/- lex: two hex digits by strconv.ParseUint. -/
import Derived.Test.YtaijdpckkobofaaDoorLexLib
import Derived.Test.YtaijdpckkobofaaDoorLexHex
import Derived.Lib.ConvBytes
import Derived.Laws.Strings3
import Derived.Laws.Closers25
import Derived.BigCall
import Derived.BigGuard
namespace Go.Proofs.YtaijdpckkobofaaDoor
open Go.RowKit
set_option linter.unusedVariables false

theorem lower_any (c : UInt8) (w : World) : Calls Tryd.prog 180 #[.int .u8 (c.toNat : Int)] w fun e w' => e = .returned (.int .u8 ((c.toNat ||| 32 : Nat) : Int)) ∧ w = w' := by
  have h := (or32_any c).1
  go_enter Tryd.func180, Tryd.ntmps180
  go_wp2
  go_ret
  exact ⟨rfl, rfl⟩

def hexTuple : Option Nat → Value
  | some n => .tuple #[.int .u64 n, .nilIface]
  | none => .tuple #[.int .u64 0, .iface 217 (.int .i64 2)]

set_option maxHeartbeats 4000000 in
set_option maxRecDepth 100000 in
theorem parse16 (t : ByteArray) (ht2 : t.size = 2) (w : World) :
    Calls Tryd.prog 165 #[.string t, .int .i64 16, .int .i64 8] w fun e w' => e = .returned (hexTuple (hexFrom 0 t.data.toList)) ∧ w' = Lib.bytesWorld w 5 t := by
  have hemp : t.toList.isEmpty = false := by
    rw [← decide_eq_emptyBytes]
    exact decide_eq_false (fun h => by rw [h] at ht2; simp at ht2)
  have hcv := Lib.run_convert_string_bytes (P := Tryd.prog) w 9 35 5 t (u := .string) Tryd.underlying9 Tryd.underlying35 Tryd.underlying5
  have hB : ∀ j, j < t.size → (Lib.bytesWorld w 5 t).cell? ⟨w.heap.size, j, none⟩ = some (.int .u8 (t.data.toList.getD j 0).toNat) := fun j hj => Lib.bytesWorld_cell w 5 t j hj
  obtain ⟨W1, hW1⟩ : ∃ W1, W1 = Lib.bytesWorld w 5 t := ⟨_, rfl⟩
  rw [← hW1] at hcv hB ⊢
  clear hW1
  obtain ⟨bs, hL⟩ : ∃ bs, bs = t.data.toList := ⟨_, rfl⟩
  have hLn : bs.length = t.size := by rw [hL, Lib.size_eq]
  rw [← hL] at hB ⊢
  clear hL
  obtain ⟨n2, hn2⟩ : ∃ n2, n2 = t.size := ⟨_, rfl⟩
  have hn2' : (2 : Int) ≤ (t.size : Int) := by omega
  have hn2'' : (t.size : Int) ≤ 2 := by omega
  have HT := Lib.hid ht2
  clear ht2 hn2
  have hmv : IntKind.u64.wrap (IntKind.u64.wrap 256 - 1) = 255 := by
    rw [IntKind.wrap_u64, IntKind.wrap_u64]
    decide
  go_enter Tryd.func165, Tryd.ntmps165
  go_wp2
  go_loop [12, 13, 101] (fun vu vn vi => ∃ (k acc : Nat) (a : Int), vu = .bool false ∧ vn = .int .u64 a ∧ vi = .int .i64 k ∧ k ≤ t.size ∧ Hid (a = (acc : Int) ∧ ((k = 0 ∧ acc = 0) ∨ (k = 1 ∧ acc < 16) ∨ (k = 2 ∧ acc < 256)) ∧ hexFrom 0 bs = hexFrom acc (bs.drop k)))
    (fun _ _ vi => t.size - (intOf vi).toNat)
  case atStart => exact ⟨0, 0, 0, rfl, rfl, rfl, by omega, rfl, by omega, rfl⟩
  case round =>
    obtain ⟨k, acc, a, rfl, rfl, rfl, hk, hh⟩ := hrel
    obtain ⟨ha, hacc, hdec⟩ := hh.out
    clear hh
    have a0 : 0 ≤ a := by omega
    have a1 : a ≤ 255 := by omega
    by_cases hkn : k < t.size
    · have a2 : a ≤ 15 := by omega
      have hc := hB k hkn
      have hdrop : bs.drop k = bs[k]'(by omega) :: bs.drop (k + 1) := List.drop_eq_getElem_cons (by omega)
      have hget : bs.getD k 0 = bs[k]'(by omega) := by simp [List.getD, List.getElem?_eq_getElem (show k < bs.length by omega)]
      rw [hdrop] at hdec
      rw [hget] at hc
      generalize bs[k]'(by omega) = c at hc hdec
      have hc256 : c.toNat < 256 := c.toNat_lt
      have HLo := Lib.hid (lower_any c)
      have hL256 := (or32_any c).2
      have hus : c.toNat = 95 → (c.toNat ||| 32) = 127 := fun e => by rw [e]; decide
      have HX : Hid (hexAny c.toNat = if 48 ≤ c.toNat ∧ c.toNat ≤ 57 then some (c.toNat - 48) else if 97 ≤ (c.toNat ||| 32) ∧ (c.toNat ||| 32) ≤ 102 then some ((c.toNat ||| 32) - 87) else none) := Lib.hid rfl
      obtain ⟨L, hL⟩ : ∃ L, (c.toNat ||| 32) = L := ⟨_, rfl⟩
      rw [hL] at HLo hL256 hus HX
      clear hB hdrop hget hL
      by_cases hdig : 48 ≤ c.toNat ∧ c.toNat ≤ 57
      · rw [if_pos hdig] at HX
        obtain ⟨hd0, hd1⟩ := hdig
        have hF : hexFrom acc (c :: bs.drop (k + 1)) = hexFrom (acc * 16 + (c.toNat - 48)) (bs.drop (k + 1)) := by simp [hexFrom, HX.out]
        have HN : Hid (a * 16 + ((c.toNat : Int) - 48) = ((acc * 16 + (c.toNat - 48) : Nat) : Int) ∧ ((k + 1 = 0 ∧ acc * 16 + (c.toNat - 48) = 0) ∨ (k + 1 = 1 ∧ acc * 16 + (c.toNat - 48) < 16) ∨ (k + 1 = 2 ∧ acc * 16 + (c.toNat - 48) < 256)) ∧ hexFrom 0 bs = hexFrom (acc * 16 + (c.toNat - 48)) (bs.drop (k + 1))) := Lib.hid ⟨by omega, by omega, hdec.trans hF⟩
        have hb95 : ((c.toNat : Int) == 95) = false := by rw [beq_eq_false_iff_ne]; omega
        clear hacc hF hdec ha hus
        go_wp2
        refine ⟨⟨k + 1, acc * 16 + (c.toNat - 48), a * 16 + ((c.toNat : Int) - 48), rfl, (by first | rfl | (congr 1; omega)), (by first | rfl | (congr 1; omega)), by omega, HN⟩, by simp [intOf]; omega⟩
      · rw [if_neg hdig] at HX
        have hdig' : (c.toNat : Int) < 48 ∨ 57 < (c.toNat : Int) := by omega
        clear hdig
        by_cases hlet : 97 ≤ L ∧ L ≤ 102
        · rw [if_pos hlet] at HX
          obtain ⟨hd0, hd1⟩ := hlet
          have hF : hexFrom acc (c :: bs.drop (k + 1)) = hexFrom (acc * 16 + (L - 87)) (bs.drop (k + 1)) := by simp [hexFrom, HX.out]
          have HN : Hid (a * 16 + ((L : Int) - 97 + 10) = ((acc * 16 + (L - 87) : Nat) : Int) ∧ ((k + 1 = 0 ∧ acc * 16 + (L - 87) = 0) ∨ (k + 1 = 1 ∧ acc * 16 + (L - 87) < 16) ∨ (k + 1 = 2 ∧ acc * 16 + (L - 87) < 256)) ∧ hexFrom 0 bs = hexFrom (acc * 16 + (L - 87)) (bs.drop (k + 1))) := Lib.hid ⟨by omega, by omega, hdec.trans hF⟩
          have hb95 : ((c.toNat : Int) == 95) = false := by rw [beq_eq_false_iff_ne]; omega
          clear hacc hF hdec ha hus
          rcases hdig' with hdig' | hdig'
          all_goals
            go_wp2_with (go_at_call 180; refine (HLo.out _).mono ?_; rintro e w' ⟨rfl, rfl⟩)
            refine ⟨⟨k + 1, acc * 16 + (L - 87), a * 16 + ((L : Int) - 97 + 10), rfl, (by first | rfl | (congr 1; omega)), (by first | rfl | (congr 1; omega)), by omega, HN⟩, by simp [intOf]; omega⟩
        · rw [if_neg hlet] at HX
          have hF : hexFrom acc (c :: bs.drop (k + 1)) = none := by simp [hexFrom, HX.out]
          rw [hF] at hdec
          have HD := Lib.hid hdec
          have hlet' : (L : Int) < 97 ∨ (103 ≤ (L : Int) ∧ (L : Int) ≤ 122) ∨ 122 < (L : Int) := by omega
          have hq : ((c.toNat : Int) == 95) = true ∨ ((c.toNat : Int) == 95) = false := by cases ((c.toNat : Int) == 95) <;> simp
          clear hlet hF hdec hacc ha hus
          rcases hdig' with hdig' | hdig'
          all_goals
            rcases hlet' with hlet' | ⟨hl1, hl2⟩ | hlet'
            all_goals
              rcases hq with hq | hq
              all_goals
                go_wp2_with (go_at_call 180; refine (HLo.out _).mono ?_; rintro e w' ⟨rfl, rfl⟩)
                go_ret2
                exact ⟨by rw [HD.out]; rfl, rfl⟩
    · have hkk : k = t.size := by omega
      subst hkk
      have hF : hexFrom acc (bs.drop t.size) = some acc := by rw [List.drop_eq_nil_of_le (by omega)]; rfl
      rw [hF] at hdec
      subst ha
      have HD := Lib.hid hdec
      clear hacc hF a0 a1 hdec
      go_wp2
      go_ret2
      exact ⟨by rw [HD.out]; rfl, rfl⟩
end Go.Proofs.YtaijdpckkobofaaDoor
