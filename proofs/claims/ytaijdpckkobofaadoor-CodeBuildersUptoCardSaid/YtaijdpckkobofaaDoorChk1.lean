/- A name in form: the directory's and the reference's. -/
import Derived.Test.YtaijdpckkobofaaDoorMem1
import Derived.Test.YtaijdpckkobofaaDoorCodeDef
namespace Go.Proofs.YtaijdpckkobofaaDoor
open Go.RowKit
set_option linter.unusedVariables false

theorem str_at {s : ByteArray} {k : Nat} (h : k < s.size) : ∃ c : UInt8, s.data.toList[k]? = some c ∧ (s[k]'h).toNat = c.toNat := by
  have h' : k < s.data.toList.length := by rw [← Lib.size_eq]; exact h
  exact ⟨s.data.toList[k], List.getElem?_eq_getElem h', rfl⟩
def charOk (c : UInt8) : Bool := lowC c || digC c
def upOk (l : List UInt8) (k : Nat) : Bool := (l.take k).all charOk
theorem upOk_zero (l : List UInt8) : upOk l 0 = true := rfl
theorem upOk_succ {l : List UInt8} {k : Nat} {c : UInt8} (h : l[k]? = some c) : upOk l (k + 1) = (upOk l k && charOk c) := by
  unfold upOk
  rw [List.take_add_one, h, List.all_append]
  simp
theorem upOk_all {l : List UInt8} {n : Nat} (h : l.length = n) : upOk l n = l.all charOk := by
  unfold upOk; rw [List.take_of_length_le (by omega)]
theorem upOk_bad {l : List UInt8} {k : Nat} {c : UInt8} (h : l[k]? = some c) (hc : charOk c = false) : l.all charOk = false := by
  rw [Bool.eq_false_iff]
  intro ha
  rw [List.all_eq_true] at ha
  have := ha c (List.mem_of_getElem? h)
  rw [hc] at this
  cases this
theorem charOk_of (c : UInt8) : charOk c = ((decide (97 ≤ c.toNat) && decide (c.toNat ≤ 122)) || (decide (48 ≤ c.toNat) && decide (c.toNat ≤ 57))) := rfl
theorem nameOk_of (l : List UInt8) : nameOk l = (decide (1 ≤ l.length) && decide (l.length ≤ 16) && !(digC (l.headD 0)) && l.all charOk) := rfl
theorem char_cases (u : Nat) : (u < 48 ∧ u < 49) ∨ (48 ≤ u ∧ u ≤ 57) ∨ (57 < u ∧ u < 97) ∨ (97 ≤ u ∧ u ≤ 122) ∨ (122 < u ∧ 121 < u) := by omega
theorem dt {a b : Int} (h : a ≤ b) : decide (a ≤ b) = true := by simpa using h
theorem df {a b : Int} (h : b < a) : decide (a ≤ b) = false := by simpa using h
theorem nameOk_bad {l : List UInt8} {k : Nat} {c : UInt8} (h : l[k]? = some c) (hc : charOk c = false) : nameOk l = false := by
  rw [nameOk_of, upOk_bad h hc]; simp
theorem nameOk_dig {l : List UInt8} (h : digC (l.headD 0) = true) : nameOk l = false := by
  rw [nameOk_of, h]; simp
theorem head_at {l : List UInt8} {c : UInt8} (h : l[0]? = some c) : l.headD 0 = c := by
  cases l with
  | nil => simp at h
  | cons x l => simpa using h
theorem digC_of (c : UInt8) : digC c = (decide (48 ≤ c.toNat) && decide (c.toNat ≤ 57)) := rfl
theorem str_len (s : ByteArray) : s.data.toList.length = s.size := (Lib.size_eq s).symm
theorem toList_nil {s : ByteArray} (h : s.size = 0) : s.toList = [] := by
  rw [Lib.toList_data]
  exact List.eq_nil_of_length_eq_zero (by rw [str_len]; exact h)

set_option maxRecDepth 100000 in
set_option maxHeartbeats 1000000 in
theorem named_any (s : ByteArray) (w : World) :
    Calls Tryd.prog 141 #[.string s] w fun e w' => e = .returned (.bool (nameOk s.data.toList)) ∧ w = w' := by
  obtain ⟨l, hl⟩ : ∃ l, s.data.toList = l := ⟨_, rfl⟩
  have hlen := str_len s
  rw [hl] at hlen ⊢
  by_cases h0 : s.size = 0
  · have HX : Hid (nameOk l = false) := Lib.hid (by rw [nameOk_of]; simp; omega)
    have e1 := toList_nil h0
    clear hlen hl h0
    go_enter Tryd.func141, Tryd.ntmps141
    go_wp2_with fail
    go_ret
    exact ⟨ret_bool (by rw [HX.out]), rfl⟩
  · have e1 : (s.toList == []) = false := by
      rw [beq_eq_false_iff_ne, Lib.toList_data]; intro h; rw [h] at hl; subst hl; simp at hlen; omega
    have e2 : s.toList.isEmpty = false := by
      rw [Lib.toList_data, hl]
      cases l with
      | nil => simp at hlen; omega
      | cons => rfl
    by_cases h16 : 16 < s.size
    · have HX : Hid (nameOk l = false) := Lib.hid (by rw [nameOk_of]; simp; omega)
      clear hlen hl h0
      go_enter Tryd.func141, Tryd.ntmps141
      go_wp2_with fail
      go_ret
      exact ⟨ret_bool (by rw [HX.out]), rfl⟩
    · have h00 : 0 < s.size := by omega
      obtain ⟨c0, hc0, hs0⟩ := str_at (s := s) (k := 0) h00
      rw [hl] at hc0
      have hh0 : l.headD 0 = c0 := by
        cases l with
        | nil => simp at hc0
        | cons x l => simpa using hc0
      obtain ⟨n0, hn0⟩ : ∃ n0, c0.toNat = n0 := ⟨_, rfl⟩
      rw [hn0] at hs0
      have h1 : 1 ≤ s.size := by omega
      have h16' : s.size ≤ 16 := by omega
      have hle : l.length = s.size := hlen
      by_cases hd : 48 ≤ n0 ∧ n0 ≤ 57
      · obtain ⟨hd1, hd2⟩ := hd
        have HX : Hid (nameOk l = false) := Lib.hid (by rw [nameOk_of, hh0]; simp [digC, hn0]; omega)
        clear hlen hl h0 hh0 hc0 hn0 h16 hle
        go_enter Tryd.func141, Tryd.ntmps141
        go_wp2_with fail
        go_ret
        exact ⟨ret_bool (by rw [HX.out]), rfl⟩
      · have HD : Hid (nameOk l = l.all charOk) := Lib.hid (by
          rw [nameOk_of, hh0]
          have : digC c0 = false := by simp [digC, hn0]; omega
          rw [this]
          have a : decide (1 ≤ l.length) = true := by simp; omega
          have b : decide (l.length ≤ 16) = true := by simp; omega
          rw [a, b]; simp)
        have HL := Lib.hid hl
        have HLE := Lib.hid hle
        have hd' : n0 < 48 ∨ 57 < n0 := by omega
        clear hlen hl hle h0 hh0 hc0 hn0 h16 hd
        go_enter Tryd.func141, Tryd.ntmps141
        rcases hd' with hd' | hd'
        all_goals
          go_wp2_with fail
          go_loop [24] (fun ix => ∃ k : Nat, k ≤ s.size ∧ ix = .int .i64 k ∧ upOk l k = true) (fun ix => s.size - (intOf ix).toNat)
          case atStart => exact ⟨0, by omega, rfl, upOk_zero l⟩
          case round =>
            obtain ⟨k, hk, rfl, hup⟩ := hrel
            have HU := Lib.hid hup
            clear hup
            by_cases hlt : k < s.size
            · obtain ⟨c, hc, hs⟩ := str_at hlt
              rw [HL.out] at hc
              have HS := Lib.hid (upOk_succ hc)
              have HB := Lib.hid (fun hb : charOk c = false => upOk_bad hc hb)
              have HC := Lib.hid (charOk_of c)
              clear hc
              obtain ⟨u, hu⟩ : ∃ u, c.toNat = u := ⟨_, rfl⟩
              rw [hu] at hs HC
              clear hu
              rcases char_cases u with ⟨h, _⟩ | ⟨h, h'⟩ | ⟨h, h'⟩ | ⟨h, h'⟩ | ⟨h, _⟩
              · go_wp2_with fail
                go_ret
                exact ⟨ret_bool (by rw [HD.out, HB.out (by rw [HC.out]; simp; omega)]), rfl⟩
              · go_wp2_with fail
                go_round
                case rel => exact ⟨k + 1, by omega, by go_num, by rw [HS.out, HU.out, HC.out]; simp; omega⟩
                case measure => simp [intOf]; omega
              · go_wp2_with fail
                go_ret
                exact ⟨ret_bool (by rw [HD.out, HB.out (by rw [HC.out]; simp; omega)]), rfl⟩
              · go_wp2_with fail
                go_round
                case rel => exact ⟨k + 1, by omega, by go_num, by rw [HS.out, HU.out, HC.out]; simp; omega⟩
                case measure => simp [intOf]; omega
              · go_wp2_with fail
                go_ret
                exact ⟨ret_bool (by rw [HD.out, HB.out (by rw [HC.out]; simp; omega)]), rfl⟩
            · obtain rfl : k = s.size := by omega
              go_wp2_with fail
              go_ret
              exact ⟨ret_bool (by rw [HD.out, ← upOk_all HLE.out, HU.out]), rfl⟩

set_option maxRecDepth 100000 in
set_option maxHeartbeats 1000000 in
theorem rnamed_any (s : ByteArray) (w : World) :
    Calls Tryd.prog 103 #[.string s] w fun e w' => e = .returned (.bool (nameOk s.data.toList)) ∧ w = w' := by
  obtain ⟨l, hl⟩ : ∃ l, s.data.toList = l := ⟨_, rfl⟩
  have hlen := str_len s
  rw [hl] at hlen ⊢
  by_cases h0 : s.size = 0
  · have HX : Hid (nameOk l = false) := Lib.hid (by rw [nameOk_of]; simp; omega)
    clear hlen hl
    go_enter Tryd.func103, Tryd.ntmps103
    go_wp2_with fail
    go_ret
    exact ⟨ret_bool (by rw [HX.out]), rfl⟩
  · by_cases h16 : 16 < s.size
    · have HX : Hid (nameOk l = false) := Lib.hid (by rw [nameOk_of]; simp; omega)
      have h1 : 1 ≤ s.size := by omega
      clear hlen hl h0
      go_enter Tryd.func103, Tryd.ntmps103
      go_wp2_with fail
      go_ret
      exact ⟨ret_bool (by rw [HX.out]), rfl⟩
    · have h1 : 1 ≤ s.size := by omega
      have h16' : s.size ≤ 16 := by omega
      have HL := Lib.hid hl
      have HLE := Lib.hid hlen
      clear hlen hl h0 h16
      go_enter Tryd.func103, Tryd.ntmps103
      go_wp2_with fail
      go_loop [3] (fun ix => ∃ k : Nat, k ≤ s.size ∧ ix = .int .i64 k ∧ upOk l k = true ∧ (1 ≤ k → digC (l.headD 0) = false)) (fun ix => s.size - (intOf ix).toNat)
      case atStart => exact ⟨0, by omega, rfl, upOk_zero l, fun h => by omega⟩
      case round =>
        obtain ⟨k, hk, rfl, hup, hdg⟩ := hrel
        have HU := Lib.hid hup
        have HDG := Lib.hid hdg
        clear hup hdg
        by_cases hlt : k < s.size
        · obtain ⟨c, hc, hs⟩ := str_at hlt
          rw [HL.out] at hc
          have HS := Lib.hid (upOk_succ hc)
          have HB := Lib.hid (fun hb : charOk c = false => nameOk_bad hc hb)
          have HC := Lib.hid (charOk_of c)
          have HH := Lib.hid (fun h0 : k = 0 => head_at (h0 ▸ hc))
          have HDC := Lib.hid (digC_of c)
          clear hc
          obtain ⟨u, hu⟩ : ∃ u, c.toNat = u := ⟨_, rfl⟩
          rw [hu] at hs HC HDC
          clear hu
          rcases char_cases u with ⟨h, h'⟩ | ⟨h, h'⟩ | ⟨h, h'⟩ | ⟨h, h'⟩ | ⟨h, h'⟩
          · have d1 : decide ((97 : Int) ≤ (u : Int)) = false := df (by omega)
            have d2 : decide ((48 : Int) ≤ (u : Int)) = false := df (by omega)
            by_cases hk0 : k = 0
            · subst hk0
              go_wp2_with fail
              go_ret
              exact ⟨ret_bool (by rw [HB.out (by rw [HC.out]; simp; omega)]), rfl⟩
            · have ek : ((k : Int) == 0) = false := by rw [beq_eq_false_iff_ne]; omega
              clear hk0
              go_wp2_with fail
              go_ret
              exact ⟨ret_bool (by rw [HB.out (by rw [HC.out]; simp; omega)]), rfl⟩
          · have d1 : decide ((97 : Int) ≤ (u : Int)) = false := df (by omega)
            have d2 : decide ((48 : Int) ≤ (u : Int)) = true := dt (by omega)
            have d3 : decide ((u : Int) ≤ 57) = true := dt (by omega)
            by_cases hk0 : k = 0
            · have HN : Hid (nameOk l = false) := Lib.hid (nameOk_dig (by rw [HH.out hk0, HDC.out]; simp; omega))
              subst hk0
              go_wp2_with fail
              go_ret
              exact ⟨ret_bool (by rw [HN.out]), rfl⟩
            · have ek : ((k : Int) == 0) = false := by rw [beq_eq_false_iff_ne]; omega
              have hk1 : 1 ≤ k := by omega
              clear hk0
              go_wp2_with fail
              go_round
              case rel => exact ⟨k + 1, by omega, by go_num, by rw [HS.out, HU.out, HC.out]; simp; omega, fun _ => HDG.out hk1⟩
              case measure => simp [intOf]; omega
          · have d1 : decide ((97 : Int) ≤ (u : Int)) = false := df (by omega)
            have d2 : decide ((48 : Int) ≤ (u : Int)) = true := dt (by omega)
            have d3 : decide ((u : Int) ≤ 57) = false := df (by omega)
            by_cases hk0 : k = 0
            · subst hk0
              go_wp2_with fail
              go_ret
              exact ⟨ret_bool (by rw [HB.out (by rw [HC.out]; simp; omega)]), rfl⟩
            · have ek : ((k : Int) == 0) = false := by rw [beq_eq_false_iff_ne]; omega
              clear hk0
              go_wp2_with fail
              go_ret
              exact ⟨ret_bool (by rw [HB.out (by rw [HC.out]; simp; omega)]), rfl⟩
          · have d1 : decide ((97 : Int) ≤ (u : Int)) = true := dt (by omega)
            have d4 : decide ((u : Int) ≤ 122) = true := dt (by omega)
            have d2 : decide ((48 : Int) ≤ (u : Int)) = true := dt (by omega)
            have d3 : decide ((u : Int) ≤ 57) = false := df (by omega)
            go_wp2_with fail
            go_round
            case rel => exact ⟨k + 1, by omega, by go_num, by rw [HS.out, HU.out, HC.out]; simp; omega, fun _ => by
              by_cases hk0 : k = 0
              · rw [HH.out hk0, HDC.out]; simp; omega
              · exact HDG.out (by omega)⟩
            case measure => simp [intOf]; omega
          · have d1 : decide ((97 : Int) ≤ (u : Int)) = true := dt (by omega)
            have d4 : decide ((u : Int) ≤ 122) = false := df (by omega)
            have d2 : decide ((48 : Int) ≤ (u : Int)) = true := dt (by omega)
            have d3 : decide ((u : Int) ≤ 57) = false := df (by omega)
            by_cases hk0 : k = 0
            · subst hk0
              go_wp2_with fail
              go_ret
              exact ⟨ret_bool (by rw [HB.out (by rw [HC.out]; simp; omega)]), rfl⟩
            · have ek : ((k : Int) == 0) = false := by rw [beq_eq_false_iff_ne]; omega
              clear hk0
              go_wp2_with fail
              go_ret
              exact ⟨ret_bool (by rw [HB.out (by rw [HC.out]; simp; omega)]), rfl⟩
        · obtain rfl : k = s.size := by omega
          go_wp2_with fail
          go_ret
          exact ⟨ret_bool (by rw [nameOk_of, HLE.out, HDG.out h1, ← upOk_all HLE.out, HU.out]; simp; omega), rfl⟩
end Go.Proofs.YtaijdpckkobofaaDoor
