/- The reference's comparing of lists: numbers, bytes, lists of bytes, stops. -/
import Derived.Test.YtaijdpckkobofaaDoorDec9
namespace Go.Proofs.YtaijdpckkobofaaDoor
open Go.RowKit
set_option linter.unusedVariables false

theorem take_succ2 {α : Type} {x y : List α} {k : Nat} {u : α} (h : x.take k = y.take k) (hx : x[k]? = some u) (hy : y[k]? = some u) : x.take (k + 1) = y.take (k + 1) := by
  rw [List.take_add_one, List.take_add_one, h, hx, hy]
theorem take_end2 {α : Type} {x y : List α} {k : Nat} (h : x.take k = y.take k) (hx : x.length = k) (hy : y.length = k) : x = y := by
  rwa [List.take_of_length_le (by omega), List.take_of_length_le (by omega)] at h
theorem ne_at {α : Type} {x y : List α} {k : Nat} {u v : α} (hx : x[k]? = some u) (hy : y[k]? = some v) (h : u ≠ v) : x ≠ y := by
  intro e
  subst e
  rw [hx] at hy
  exact h (Option.some.inj hy)

set_option maxRecDepth 100000 in
set_option maxHeartbeats 2000000 in
theorem rsameInts (a1 a2 : Option Addr) (c1 c2 n1 n2 : Nat) (x y : List Int) (w : World) (hx : IntsA w a1 x) (hy : IntsA w a2 y) (h1 : x.length = n1) (h2 : y.length = n2) (hb1 : n1 ≤ 140737488355328) (hb2 : n2 ≤ 140737488355328) (rv : Bool) (hrv : rv = true ↔ x = y) :
    Calls Tryd.prog 87 #[.slice a1 n1 c1, .slice a2 n2 c2] w fun e w' => e = .returned (.bool rv) ∧ Below w.heap.size w w' := by
  have HX := Lib.hid hx
  have HY := Lib.hid hy
  have HV := Lib.hid hrv
  have H1 := Lib.hid h1
  have H2 := Lib.hid h2
  by_cases hne : n1 = n2
  · subst hne
    clear hx hy hrv h1 h2
    go_enter Tryd.func87, Tryd.ntmps87
    go_wp2_with fail
    go_loopw [5] (fun ix wr => ∃ k : Nat, k ≤ n1 ∧ ix = .int .i64 k ∧ x.take k = y.take k ∧ Below w.heap.size w wr) (fun ix _ => n1 - (intOf ix).toNat)
    case atStart => exact ⟨0, by omega, rfl, rfl, Below.refl _ _⟩
    case round =>
      obtain ⟨wo, hwo⟩ : ∃ wo : World, wr = wo := ⟨_, rfl⟩
      obtain ⟨k, hk, rfl, htk, hbel⟩ := hrel
      rw [hwo] at hbel ⊢
      clear hwo
      have HT := Lib.hid htk
      have HB := Lib.hid hbel
      clear htk
      by_cases hlt : k < n1
      · obtain ⟨u, hu⟩ : ∃ u, x[k]? = some u := ⟨_, List.getElem?_eq_getElem (by rw [H1.out]; exact hlt)⟩
        obtain ⟨v, hv⟩ : ∃ v, y[k]? = some v := ⟨_, List.getElem?_eq_getElem (by rw [H2.out]; exact hlt)⟩
        obtain ⟨g1, o1, e1, _, k1⟩ := (HX.out.below hbel) k u hu
        obtain ⟨g2, o2, e2, _, k2⟩ := (HY.out.below hbel) k v hv
        have d1 : wo.cell? ⟨g1, o1 + k, none⟩ = some (.int .i64 u) := by simpa using k1 0 _ rfl
        have d2 : wo.cell? ⟨g2, o2 + k, none⟩ = some (.int .i64 v) := by simpa using k2 0 _ rfl
        subst e1 e2
        have HU := Lib.hid hu
        have HVV := Lib.hid hv
        clear hu hv k1 k2 hbel
        obtain ⟨K, hK⟩ : ∃ K, (u != v) = K := ⟨_, rfl⟩
        go_upto_region 6 with fail
        go_cut [25] (fun s wx => s = .bool K ∧ ∃ n, wx = wo.drewN n)
        case first =>
          go_region
          all_goals (go_wp2_with fail; go_meet; exact ⟨rfl, _, rfl⟩)
        case rest =>
          obtain ⟨rfl, n, rfl⟩ := hcut
          cases K
          · obtain rfl : u = v := by simpa using hK
            clear hK
            go_wp2_with fail
            go_roundw
            case rel => exact ⟨k + 1, by omega, by go_num, take_succ2 HT.out HU.out HVV.out, below_drewN HB.out n⟩
            case measure => simp [intOf]; omega
          · have HR : Hid (rv = false) := Lib.hid (by
              rw [Bool.eq_false_iff]
              intro h
              exact ne_at HU.out HVV.out (by simpa using hK) (HV.out.1 h))
            clear hK
            go_wp2_with fail
            go_ret
            exact ⟨ret_bool (by rw [HR.out]), below_drewN HB.out n⟩
      · have HR : Hid (rv = true) := Lib.hid (HV.out.2 (take_end2 HT.out (by rw [H1.out]; omega) (by rw [H2.out]; omega)))
        go_wp2_with fail
        go_ret
        exact ⟨ret_bool (by rw [HR.out]), HB.out⟩
  · have HR : Hid (rv = false) := Lib.hid (by
      rw [Bool.eq_false_iff]
      intro h
      exact hne (by rw [← h1, ← h2, hrv.1 h]))
    have hne1 : ((n1 : Int) != (n2 : Int)) = true := by rw [bne_iff_ne]; omega
    clear hx hy hrv h1 h2
    go_enter Tryd.func87, Tryd.ntmps87
    go_wp2_with fail
    go_ret
    exact ⟨ret_bool (by rw [HR.out]), Below.refl _ _⟩

set_option maxRecDepth 100000 in
set_option maxHeartbeats 2000000 in
theorem requal (a1 a2 : Option Addr) (c1 c2 n1 n2 : Nat) (x y : List UInt8) (w : World) (hx : BsA w a1 x) (hy : BsA w a2 y) (h1 : x.length = n1) (h2 : y.length = n2) (hb1 : n1 ≤ 140737488355328) (hb2 : n2 ≤ 140737488355328) (rv : Bool) (hrv : rv = true ↔ x = y) :
    Calls Tryd.prog 18 #[.slice a1 n1 c1, .slice a2 n2 c2] w fun e w' => e = .returned (.bool rv) ∧ Below w.heap.size w w' := by
  have HX := Lib.hid hx
  have HY := Lib.hid hy
  have HV := Lib.hid hrv
  have H1 := Lib.hid h1
  have H2 := Lib.hid h2
  by_cases hne : n1 = n2
  · subst hne
    clear hx hy hrv h1 h2
    go_enter Tryd.func18, Tryd.ntmps18
    go_wp2_with fail
    go_loopw [5] (fun ix wr => ∃ k : Nat, k ≤ n1 ∧ ix = .int .i64 k ∧ x.take k = y.take k ∧ Below w.heap.size w wr) (fun ix _ => n1 - (intOf ix).toNat)
    case atStart => exact ⟨0, by omega, rfl, rfl, Below.refl _ _⟩
    case round =>
      obtain ⟨wo, hwo⟩ : ∃ wo : World, wr = wo := ⟨_, rfl⟩
      obtain ⟨k, hk, rfl, htk, hbel⟩ := hrel
      rw [hwo] at hbel ⊢
      clear hwo
      have HT := Lib.hid htk
      have HB := Lib.hid hbel
      clear htk
      by_cases hlt : k < n1
      · obtain ⟨u, hu⟩ : ∃ u, x[k]? = some u := ⟨_, List.getElem?_eq_getElem (by rw [H1.out]; exact hlt)⟩
        obtain ⟨v, hv⟩ : ∃ v, y[k]? = some v := ⟨_, List.getElem?_eq_getElem (by rw [H2.out]; exact hlt)⟩
        obtain ⟨g1, o1, e1, _, d1⟩ := (HX.out.below hbel) k u hu
        obtain ⟨g2, o2, e2, _, d2⟩ := (HY.out.below hbel) k v hv
        subst e1 e2
        obtain ⟨ui, hui⟩ : ∃ i : Int, (u.toNat : Int) = i := ⟨_, rfl⟩
        obtain ⟨vi, hvi⟩ : ∃ i : Int, (v.toNat : Int) = i := ⟨_, rfl⟩
        rw [hui] at d1
        rw [hvi] at d2
        have HU := Lib.hid hu
        have HVV := Lib.hid hv
        have HE : Hid (ui = vi ↔ u = v) := Lib.hid (by
          rw [← hui, ← hvi]
          constructor
          · intro h; exact UInt8.toNat_inj.1 (by omega)
          · intro h; rw [h])
        clear hu hv hui hvi hbel
        obtain ⟨K, hK⟩ : ∃ K, (ui != vi) = K := ⟨_, rfl⟩
        go_upto_region 6 with fail
        go_cut [25] (fun s wx => s = .bool K ∧ ∃ n, wx = wo.drewN n)
        case first =>
          go_region
          all_goals (go_wp2_with fail; go_meet; exact ⟨rfl, _, rfl⟩)
        case rest =>
          obtain ⟨rfl, n, rfl⟩ := hcut
          cases K
          · obtain rfl : u = v := HE.out.1 (by simpa using hK)
            clear hK
            go_wp2_with fail
            go_roundw
            case rel => exact ⟨k + 1, by omega, by go_num, take_succ2 HT.out HU.out HVV.out, below_drewN HB.out n⟩
            case measure => simp [intOf]; omega
          · have HR : Hid (rv = false) := Lib.hid (by
              rw [Bool.eq_false_iff]
              intro h
              exact ne_at HU.out HVV.out (fun e => by
                have := HE.out.2 e
                simp [this] at hK) (HV.out.1 h))
            clear hK
            go_wp2_with fail
            go_ret
            exact ⟨ret_bool (by rw [HR.out]), below_drewN HB.out n⟩
      · have HR : Hid (rv = true) := Lib.hid (HV.out.2 (take_end2 HT.out (by rw [H1.out]; omega) (by rw [H2.out]; omega)))
        go_wp2_with fail
        go_ret
        exact ⟨ret_bool (by rw [HR.out]), HB.out⟩
  · have HR : Hid (rv = false) := Lib.hid (by
      rw [Bool.eq_false_iff]
      intro h
      exact hne (by rw [← h1, ← h2, hrv.1 h]))
    have hne1 : ((n1 : Int) != (n2 : Int)) = true := by rw [bne_iff_ne]; omega
    clear hx hy hrv h1 h2
    go_enter Tryd.func18, Tryd.ntmps18
    go_wp2_with fail
    go_ret
    exact ⟨ret_bool (by rw [HR.out]), Below.refl _ _⟩

set_option maxRecDepth 100000 in
set_option maxHeartbeats 2000000 in
theorem requals (a1 a2 : Option Addr) (c1 c2 n1 : Nat) (x : List (List UInt8)) (w : World) (hx : MsgsA w a1 x) (hy : MsgsA w a2 x) (h1 : x.length = n1) (hb1 : n1 ≤ 140737488355328) (hl : ∀ m ∈ x, m.length ≤ 140737488355328) :
    Calls Tryd.prog 25 #[.slice a1 n1 c1, .slice a2 n1 c2] w fun e w' => e = .returned (.bool true) ∧ Below w.heap.size w w' := by
  have HX := Lib.hid hx
  have HY := Lib.hid hy
  have H1 := Lib.hid h1
  have HL := Lib.hid hl
  clear hx hy h1 hl
  go_enter Tryd.func25, Tryd.ntmps25
  go_wp2_with fail
  go_loopw [5] (fun ix wr => ∃ k : Nat, k ≤ n1 ∧ ix = .int .i64 k ∧ Below w.heap.size w wr) (fun ix _ => n1 - (intOf ix).toNat)
  case atStart => exact ⟨0, by omega, rfl, Below.refl _ _⟩
  case round =>
    obtain ⟨wo, hwo⟩ : ∃ wo : World, wr = wo := ⟨_, rfl⟩
    obtain ⟨k, hk, rfl, hbel⟩ := hrel
    rw [hwo] at hbel ⊢
    clear hwo
    have HB := Lib.hid hbel
    by_cases hlt : k < n1
    · obtain ⟨u, hu⟩ : ∃ u, x[k]? = some u := ⟨_, List.getElem?_eq_getElem (by rw [H1.out]; exact hlt)⟩
      obtain ⟨p1, q1, ⟨g1, o1, e1, l1, k1⟩, hA1, _⟩ := (HX.out.below hbel) k u hu
      obtain ⟨p2, q2, ⟨g2, o2, e2, l2, k2⟩, hA2, _⟩ := (HY.out.below hbel) k u hu
      have hul := HL.out u (List.mem_of_getElem? hu)
      obtain ⟨m, hm⟩ : ∃ m, u.length = m := ⟨_, rfl⟩
      have d1 : wo.cell? ⟨g1, o1 + k, none⟩ = some (.slice p1 m q1) := by rw [← hm]; simpa using k1 0 _ rfl
      have d2 : wo.cell? ⟨g2, o2 + k, none⟩ = some (.slice p2 m q2) := by rw [← hm]; simpa using k2 0 _ rfl
      have HE : Hid (∀ W, Below wo.heap.size wo W → Calls Tryd.prog 18 #[.slice p1 m q1, .slice p2 m q2] W fun e w' => e = .returned (.bool true) ∧ Below W.heap.size W w') := Lib.hid (fun W hW => requal p1 p2 q1 q2 m m u u W (hA1.below hW) (hA2.below hW) hm hm (by omega) (by omega) true (by simp))
      subst e1 e2
      clear hu k1 k2 hbel hA1 hA2 hm
      go_upto_region 6 with fail
      go_cut [26] (fun s wx => s = .bool false ∧ Below wo.heap.size wo wx)
      case first =>
        go_region_with (go_at_call 18; refine (HE.out _ (by exact Below.drew (Below.refl _ _))).mono ?_; rintro e w2 ⟨rfl, hb2⟩; have hb3 : Below wo.heap.size wo w2 := Below.trans (Below.drew (Below.refl _ _)) hb2)
        all_goals (go_wp2_with fail; go_meet; exact ⟨rfl, by assumption⟩)
      case rest =>
        obtain ⟨rfl, hb2⟩ := hcut
        have HB2 := Lib.hid (HB.out.trans (hb2.mono HB.out.size))
        clear hb2
        go_wp2_with fail
        go_roundw
        case rel => exact ⟨k + 1, by omega, by go_num, HB2.out⟩
        case measure => simp [intOf]; omega
    · go_wp2_with fail
      go_ret
      exact ⟨rfl, HB.out⟩

set_option maxRecDepth 100000 in
set_option maxHeartbeats 2000000 in
theorem rsameStops (a1 a2 : Option Addr) (c1 c2 n1 n2 : Nat) (x y : List PStop) (w : World) (hx : StopsA w a1 x) (hy : StopsA w a2 y) (h1 : x.length = n1) (h2 : y.length = n2) (hb1 : n1 ≤ 140737488355328) (hb2 : n2 ≤ 140737488355328) (rv : Bool) (hrv : rv = true ↔ x = y) :
    Calls Tryd.prog 41 #[.slice a1 n1 c1, .slice a2 n2 c2] w fun e w' => e = .returned (.bool rv) ∧ Below w.heap.size w w' := by
  have HX := Lib.hid hx
  have HY := Lib.hid hy
  have HV := Lib.hid hrv
  have H1 := Lib.hid h1
  have H2 := Lib.hid h2
  by_cases hne : n1 = n2
  · subst hne
    clear hx hy hrv h1 h2
    go_enter Tryd.func41, Tryd.ntmps41
    go_wp2_with fail
    go_loopw [5] (fun ix wr => ∃ k : Nat, k ≤ n1 ∧ ix = .int .i64 k ∧ x.take k = y.take k ∧ Below w.heap.size w wr) (fun ix _ => n1 - (intOf ix).toNat)
    case atStart => exact ⟨0, by omega, rfl, rfl, Below.refl _ _⟩
    case round =>
      obtain ⟨wo, hwo⟩ : ∃ wo : World, wr = wo := ⟨_, rfl⟩
      obtain ⟨k, hk, rfl, htk, hbel⟩ := hrel
      rw [hwo] at hbel ⊢
      clear hwo
      have HT := Lib.hid htk
      have HB := Lib.hid hbel
      clear htk
      by_cases hlt : k < n1
      · obtain ⟨u, hu⟩ : ∃ u, x[k]? = some u := ⟨_, List.getElem?_eq_getElem (by rw [H1.out]; exact hlt)⟩
        obtain ⟨v, hv⟩ : ∃ v, y[k]? = some v := ⟨_, List.getElem?_eq_getElem (by rw [H2.out]; exact hlt)⟩
        obtain ⟨g1, o1, e1, _, k1⟩ := (HX.out.below hbel) k u hu
        obtain ⟨g2, o2, e2, _, k2⟩ := (HY.out.below hbel) k v hv
        obtain ⟨s1, i1, j1⟩ := u
        obtain ⟨s2, i2, j2⟩ := v
        obtain ⟨t1, ht1⟩ : ∃ t : ByteArray, (⟨s1.toArray⟩ : ByteArray) = t := ⟨_, rfl⟩
        obtain ⟨t2, ht2⟩ : ∃ t : ByteArray, (⟨s2.toArray⟩ : ByteArray) = t := ⟨_, rfl⟩
        have d10 : wo.cell? ⟨g1, o1 + k * 3, none⟩ = some (.string t1) := by rw [← ht1]; exact k1 0 _ rfl
        have d11 : wo.cell? ⟨g1, o1 + k * 3 + 1, none⟩ = some (.int .i64 i1) := k1 1 _ rfl
        have d12 : wo.cell? ⟨g1, o1 + k * 3 + 2, none⟩ = some (.int .i64 j1) := k1 2 _ rfl
        have d20 : wo.cell? ⟨g2, o2 + k * 3, none⟩ = some (.string t2) := by rw [← ht2]; exact k2 0 _ rfl
        have d21 : wo.cell? ⟨g2, o2 + k * 3 + 1, none⟩ = some (.int .i64 i2) := k2 1 _ rfl
        have d22 : wo.cell? ⟨g2, o2 + k * 3 + 2, none⟩ = some (.int .i64 j2) := k2 2 _ rfl
        subst e1 e2
        have HU := Lib.hid hu
        have HVV := Lib.hid hv
        have HS1 := Lib.hid ht1
        have HS2 := Lib.hid ht2
        clear hu hv k1 k2 hbel ht1 ht2
        by_cases hall : t1.toList = t2.toList ∧ i1 = i2 ∧ j1 = j2
        · obtain ⟨h1, rfl, rfl⟩ := hall
          have hs12 : s1 = s2 := by
            rw [Lib.toList_data, Lib.toList_data, ← HS1.out, ← HS2.out] at h1
            exact h1
          have ht12 : t1 = t2 := by rw [← HS1.out, ← HS2.out, hs12]
          subst hs12 ht12
          clear h1
          go_upto_region 6 with fail
          go_cut [25] (fun s wx => s = .bool false ∧ ∃ n, wx = wo.drewN n)
          case first =>
            go_region
            all_goals (go_wp2_with fail; go_meet; exact ⟨rfl, _, rfl⟩)
          case rest =>
            obtain ⟨rfl, n, rfl⟩ := hcut
            go_wp2_with fail
            go_roundw
            case rel => exact ⟨k + 1, by omega, by go_num, take_succ2 HT.out HU.out HVV.out, below_drewN HB.out n⟩
            case measure => simp [intOf]; omega
        · have HR : Hid (rv = false) := Lib.hid (by
            rw [Bool.eq_false_iff]
            intro h
            refine ne_at HU.out HVV.out (fun e => hall ?_) (HV.out.1 h)
            injection e with e1 e2 e3
            exact ⟨by rw [← HS1.out, ← HS2.out, e1], e2, e3⟩)
          by_cases h1 : t1.toList = t2.toList
          · by_cases h2 : i1 = i2
            · have h3 : ¬ j1 = j2 := fun h3 => hall ⟨h1, h2, h3⟩
              clear hall
              go_upto_region 6 with fail
              go_cut [25] (fun s wx => s = .bool true ∧ ∃ n, wx = wo.drewN n)
              case first =>
                go_region
                all_goals (go_wp2_with fail; go_meet; exact ⟨rfl, _, rfl⟩)
              case rest =>
                obtain ⟨rfl, n, rfl⟩ := hcut
                go_wp2_with fail
                go_ret
                exact ⟨ret_bool (by rw [HR.out]), below_drewN HB.out n⟩
            · clear hall
              go_upto_region 6 with fail
              go_cut [25] (fun s wx => s = .bool true ∧ ∃ n, wx = wo.drewN n)
              case first =>
                go_region
                all_goals (go_wp2_with fail; go_meet; exact ⟨rfl, _, rfl⟩)
              case rest =>
                obtain ⟨rfl, n, rfl⟩ := hcut
                go_wp2_with fail
                go_ret
                exact ⟨ret_bool (by rw [HR.out]), below_drewN HB.out n⟩
          · clear hall
            go_upto_region 6 with fail
            go_cut [25] (fun s wx => s = .bool true ∧ ∃ n, wx = wo.drewN n)
            case first =>
              go_region
              all_goals (go_wp2_with fail; go_meet; exact ⟨rfl, _, rfl⟩)
            case rest =>
              obtain ⟨rfl, n, rfl⟩ := hcut
              go_wp2_with fail
              go_ret
              exact ⟨ret_bool (by rw [HR.out]), below_drewN HB.out n⟩
      · have HR : Hid (rv = true) := Lib.hid (HV.out.2 (take_end2 HT.out (by rw [H1.out]; omega) (by rw [H2.out]; omega)))
        go_wp2_with fail
        go_ret
        exact ⟨ret_bool (by rw [HR.out]), HB.out⟩
  · have HR : Hid (rv = false) := Lib.hid (by
      rw [Bool.eq_false_iff]
      intro h
      exact hne (by rw [← h1, ← h2, hrv.1 h]))
    have hne1 : ((n1 : Int) != (n2 : Int)) = true := by rw [bne_iff_ne]; omega
    clear hx hy hrv h1 h2
    go_enter Tryd.func41, Tryd.ntmps41
    go_wp2_with fail
    go_ret
    exact ⟨ret_bool (by rw [HR.out]), Below.refl _ _⟩
end Go.Proofs.YtaijdpckkobofaaDoor
