/- slices.Equal, bytes.Equal, slices.Clone at the types of this program. -/
import Derived.Test.YtaijdpckkobofaaDoorBMem2
import Derived.Test.YtaijdpckkobofaaDoorRConv
import Derived.Lib.SliceRun
namespace Go.Proofs.YtaijdpckkobofaaDoor
open Go.RowKit
set_option linter.unusedVariables false

set_option maxRecDepth 100000 in
set_option maxHeartbeats 2000000 in
theorem sequalInts (a1 a2 : Option Addr) (c1 c2 n1 n2 : Nat) (x y : List Int) (w : World) (hx : IntsA w a1 x) (hy : IntsA w a2 y) (h1 : x.length = n1) (h2 : y.length = n2) (hb1 : n1 ≤ 140737488355328) (hb2 : n2 ≤ 140737488355328) (rv : Bool) (hrv : rv = true ↔ x = y) :
    Calls Tryd.prog 90 #[.slice a1 n1 c1, .slice a2 n2 c2] w fun e w' => e = .returned (.bool rv) ∧ Below w.heap.size w w' := by
  have HX := Lib.hid hx
  have HY := Lib.hid hy
  have HV := Lib.hid hrv
  have H1 := Lib.hid h1
  have H2 := Lib.hid h2
  by_cases hne : n1 = n2
  · subst hne
    clear hx hy hrv h1 h2
    go_enter Tryd.func90, Tryd.ntmps90
    go_wp2_with fail
    go_loopw [13] (fun ix wr => ∃ k : Nat, k ≤ n1 ∧ ix = .int .i64 k ∧ x.take k = y.take k ∧ Below w.heap.size w wr) (fun ix _ => n1 - (intOf ix).toNat)
    case atStart => exact ⟨0, by omega, rfl, rfl, Below.refl _ _⟩
    case round =>
      obtain ⟨wo, hwo⟩ : ∃ wo : World, wr = wo := ⟨_, rfl⟩
      obtain ⟨k, hk, rfl, htk, hbel⟩ := hrel
      rw [hwo] at hbel ⊢
      clear hwo
      have HT := Lib.hid htk
      have HB := Lib.hid hbel
      clear htk
      by_cases hlt : k < n1
      · obtain ⟨u, hu⟩ : ∃ u, x[k]? = some u := ⟨_, List.getElem?_eq_getElem (by rw [H1.out]; exact hlt)⟩
        obtain ⟨v, hv⟩ : ∃ v, y[k]? = some v := ⟨_, List.getElem?_eq_getElem (by rw [H2.out]; exact hlt)⟩
        obtain ⟨g1, o1, e1, _, k1⟩ := (HX.out.below hbel) k u hu
        obtain ⟨g2, o2, e2, _, k2⟩ := (HY.out.below hbel) k v hv
        have d1 : wo.cell? ⟨g1, o1 + k, none⟩ = some (.int .i64 u) := by simpa using k1 0 _ rfl
        have d2 : wo.cell? ⟨g2, o2 + k, none⟩ = some (.int .i64 v) := by simpa using k2 0 _ rfl
        subst e1 e2
        have HU := Lib.hid hu
        have HVV := Lib.hid hv
        clear hu hv k1 k2 hbel
        obtain ⟨K, hK⟩ : ∃ K, (u != v) = K := ⟨_, rfl⟩
        go_upto_region 6 with fail
        go_cut [24] (fun s wx => s = .bool K ∧ ∃ n, wx = wo.drewN n)
        case first =>
          go_region
          all_goals (go_wp2_with fail; go_meet; exact ⟨rfl, _, rfl⟩)
        case rest =>
          obtain ⟨rfl, n, rfl⟩ := hcut
          cases K
          · obtain rfl : u = v := by simpa using hK
            clear hK
            go_wp2_with fail
            go_roundw
            case rel => exact ⟨k + 1, by omega, by go_num, take_succ2 HT.out HU.out HVV.out, below_drewN HB.out n⟩
            case measure => simp [intOf]; omega
          · have HR : Hid (rv = false) := Lib.hid (by
              rw [Bool.eq_false_iff]
              intro h
              exact ne_at HU.out HVV.out (by simpa using hK) (HV.out.1 h))
            clear hK
            go_wp2_with fail
            go_ret
            exact ⟨ret_bool (by rw [HR.out]), below_drewN HB.out n⟩
      · have HR : Hid (rv = true) := Lib.hid (HV.out.2 (take_end2 HT.out (by rw [H1.out]; omega) (by rw [H2.out]; omega)))
        go_wp2_with fail
        go_ret
        exact ⟨ret_bool (by rw [HR.out]), HB.out⟩
  · have HR : Hid (rv = false) := Lib.hid (by
      rw [Bool.eq_false_iff]
      intro h
      exact hne (by rw [← h1, ← h2, hrv.1 h]))
    have hne1 : ((n1 : Int) != (n2 : Int)) = true := by rw [bne_iff_ne]; omega
    clear hx hy hrv h1 h2
    go_enter Tryd.func90, Tryd.ntmps90
    go_wp2_with fail
    go_ret
    exact ⟨ret_bool (by rw [HR.out]), Below.refl _ _⟩


set_option maxRecDepth 100000 in
set_option maxHeartbeats 2000000 in
theorem sequalStops (a1 a2 : Option Addr) (c1 c2 n1 n2 : Nat) (x y : List PStop) (w : World) (hx : StopsA w a1 x) (hy : StopsA w a2 y) (h1 : x.length = n1) (h2 : y.length = n2) (hb1 : n1 ≤ 140737488355328) (hb2 : n2 ≤ 140737488355328) (rv : Bool) (hrv : rv = true ↔ x = y) :
    Calls Tryd.prog 85 #[.slice a1 n1 c1, .slice a2 n2 c2] w fun e w' => e = .returned (.bool rv) ∧ Below w.heap.size w w' := by
  have HX := Lib.hid hx
  have HY := Lib.hid hy
  have HV := Lib.hid hrv
  have H1 := Lib.hid h1
  have H2 := Lib.hid h2
  by_cases hne : n1 = n2
  · subst hne
    clear hx hy hrv h1 h2
    go_enter Tryd.func85, Tryd.ntmps85
    go_wp2_with fail
    go_loopw [13] (fun ix wr => ∃ k : Nat, k ≤ n1 ∧ ix = .int .i64 k ∧ x.take k = y.take k ∧ Below w.heap.size w wr) (fun ix _ => n1 - (intOf ix).toNat)
    case atStart => exact ⟨0, by omega, rfl, rfl, Below.refl _ _⟩
    case round =>
      obtain ⟨wo, hwo⟩ : ∃ wo : World, wr = wo := ⟨_, rfl⟩
      obtain ⟨k, hk, rfl, htk, hbel⟩ := hrel
      rw [hwo] at hbel ⊢
      clear hwo
      have HT := Lib.hid htk
      have HB := Lib.hid hbel
      clear htk
      by_cases hlt : k < n1
      · obtain ⟨u, hu⟩ : ∃ u, x[k]? = some u := ⟨_, List.getElem?_eq_getElem (by rw [H1.out]; exact hlt)⟩
        obtain ⟨v, hv⟩ : ∃ v, y[k]? = some v := ⟨_, List.getElem?_eq_getElem (by rw [H2.out]; exact hlt)⟩
        obtain ⟨g1, o1, e1, _, k1⟩ := (HX.out.below hbel) k u hu
        obtain ⟨g2, o2, e2, _, k2⟩ := (HY.out.below hbel) k v hv
        obtain ⟨s1, i1, j1⟩ := u
        obtain ⟨s2, i2, j2⟩ := v
        obtain ⟨t1, ht1⟩ : ∃ t : ByteArray, (⟨s1.toArray⟩ : ByteArray) = t := ⟨_, rfl⟩
        obtain ⟨t2, ht2⟩ : ∃ t : ByteArray, (⟨s2.toArray⟩ : ByteArray) = t := ⟨_, rfl⟩
        have d10 : wo.cell? ⟨g1, o1 + k * 3, none⟩ = some (.string t1) := by rw [← ht1]; exact k1 0 _ rfl
        have d11 : wo.cell? ⟨g1, o1 + k * 3 + 1, none⟩ = some (.int .i64 i1) := k1 1 _ rfl
        have d12 : wo.cell? ⟨g1, o1 + k * 3 + 2, none⟩ = some (.int .i64 j1) := k1 2 _ rfl
        have d20 : wo.cell? ⟨g2, o2 + k * 3, none⟩ = some (.string t2) := by rw [← ht2]; exact k2 0 _ rfl
        have d21 : wo.cell? ⟨g2, o2 + k * 3 + 1, none⟩ = some (.int .i64 i2) := k2 1 _ rfl
        have d22 : wo.cell? ⟨g2, o2 + k * 3 + 2, none⟩ = some (.int .i64 j2) := k2 2 _ rfl
        subst e1 e2
        have HU := Lib.hid hu
        have HVV := Lib.hid hv
        have HS1 := Lib.hid ht1
        have HS2 := Lib.hid ht2
        clear hu hv k1 k2 hbel ht1 ht2
        by_cases hall : t1.toList = t2.toList ∧ i1 = i2 ∧ j1 = j2
        · obtain ⟨h1, rfl, rfl⟩ := hall
          have hs12 : s1 = s2 := by
            rw [Lib.toList_data, Lib.toList_data, ← HS1.out, ← HS2.out] at h1
            exact h1
          have ht12 : t1 = t2 := by rw [← HS1.out, ← HS2.out, hs12]
          subst hs12 ht12
          clear h1
          go_upto_region 6 with fail
          go_cut [24] (fun s wx => s = .bool false ∧ ∃ n, wx = wo.drewN n)
          case first =>
            go_region
            all_goals (go_wp2_with fail; go_meet; exact ⟨rfl, _, rfl⟩)
          case rest =>
            obtain ⟨rfl, n, rfl⟩ := hcut
            go_wp2_with fail
            go_roundw
            case rel => exact ⟨k + 1, by omega, by go_num, take_succ2 HT.out HU.out HVV.out, below_drewN HB.out n⟩
            case measure => simp [intOf]; omega
        · have HR : Hid (rv = false) := Lib.hid (by
            rw [Bool.eq_false_iff]
            intro h
            refine ne_at HU.out HVV.out (fun e => hall ?_) (HV.out.1 h)
            injection e with e1 e2 e3
            exact ⟨by rw [← HS1.out, ← HS2.out, e1], e2, e3⟩)
          by_cases h1 : t1.toList = t2.toList
          · by_cases h2 : i1 = i2
            · have h3 : ¬ j1 = j2 := fun h3 => hall ⟨h1, h2, h3⟩
              clear hall
              go_upto_region 6 with fail
              go_cut [24] (fun s wx => s = .bool true ∧ ∃ n, wx = wo.drewN n)
              case first =>
                go_region
                all_goals (go_wp2_with fail; go_meet; exact ⟨rfl, _, rfl⟩)
              case rest =>
                obtain ⟨rfl, n, rfl⟩ := hcut
                go_wp2_with fail
                go_ret
                exact ⟨ret_bool (by rw [HR.out]), below_drewN HB.out n⟩
            · clear hall
              go_upto_region 6 with fail
              go_cut [24] (fun s wx => s = .bool true ∧ ∃ n, wx = wo.drewN n)
              case first =>
                go_region
                all_goals (go_wp2_with fail; go_meet; exact ⟨rfl, _, rfl⟩)
              case rest =>
                obtain ⟨rfl, n, rfl⟩ := hcut
                go_wp2_with fail
                go_ret
                exact ⟨ret_bool (by rw [HR.out]), below_drewN HB.out n⟩
          · clear hall
            go_upto_region 6 with fail
            go_cut [24] (fun s wx => s = .bool true ∧ ∃ n, wx = wo.drewN n)
            case first =>
              go_region
              all_goals (go_wp2_with fail; go_meet; exact ⟨rfl, _, rfl⟩)
            case rest =>
              obtain ⟨rfl, n, rfl⟩ := hcut
              go_wp2_with fail
              go_ret
              exact ⟨ret_bool (by rw [HR.out]), below_drewN HB.out n⟩
      · have HR : Hid (rv = true) := Lib.hid (HV.out.2 (take_end2 HT.out (by rw [H1.out]; omega) (by rw [H2.out]; omega)))
        go_wp2_with fail
        go_ret
        exact ⟨ret_bool (by rw [HR.out]), HB.out⟩
  · have HR : Hid (rv = false) := Lib.hid (by
      rw [Bool.eq_false_iff]
      intro h
      exact hne (by rw [← h1, ← h2, hrv.1 h]))
    have hne1 : ((n1 : Int) != (n2 : Int)) = true := by rw [bne_iff_ne]; omega
    clear hx hy hrv h1 h2
    go_enter Tryd.func85, Tryd.ntmps85
    go_wp2_with fail
    go_ret
    exact ⟨ret_bool (by rw [HR.out]), Below.refl _ _⟩

set_option maxRecDepth 100000 in
theorem bequal (a1 a2 : Option Addr) (c1 c2 n1 n2 : Nat) (x y : List UInt8) (w : World) (hx : BsA w a1 x) (hy : BsA w a2 y) (h1 : x.length = n1) (h2 : y.length = n2) (rv : Bool) (hrv : rv = true ↔ x = y) :
    Calls Tryd.prog 81 #[.slice a1 n1 c1, .slice a2 n2 c2] w fun e w' => e = .returned (.bool rv) ∧ w = w' := by
  have hc1 := conv_bs a1 c1 n1 x w hx h1
  have hc2 := conv_bs a2 c2 n2 y w hy h2
  obtain ⟨s, hs⟩ : ∃ s : ByteArray, (⟨x.toArray⟩ : ByteArray) = s := ⟨_, rfl⟩
  obtain ⟨t, ht⟩ : ∃ t : ByteArray, (⟨y.toArray⟩ : ByteArray) = t := ⟨_, rfl⟩
  have hk : (s.toList == t.toList) = rv := by
    rw [Bool.eq_iff_iff, hrv, beq_iff_eq, Lib.toList_data, Lib.toList_data, ← hs, ← ht]
  rw [hs] at hc1
  rw [ht] at hc2
  clear hx hy h1 h2 hrv hs ht
  go_enter Tryd.func81, Tryd.ntmps81
  go_wp2_with fail
  go_ret
  exact ⟨rfl, rfl⟩

/-- a copy of stops, or of numbers: nothing for nothing, else a row of the call's own -/
def CloneR (e : TypeId) (size : Nat) (w : World) (n : Nat) (xs : List Value) (en : Ending) (w' : World) : Prop := ∃ v, en = .returned v ∧ w'.ownsRow w.heap.size e size v n xs ∧ Below w.heap.size w w'
theorem StopsA.flat {w : World} {g o : Nat} {l : List PStop} (h : StopsA w (some ⟨g, o, none⟩) l) : ∀ j u, (stopsCells l)[j]? = some u → w.cell? ((⟨g, o, none⟩ : Addr).add j) = some u := by
  intro j u hu
  have hjl := some_lt hu
  have hfl : ∀ l : List PStop, (stopsCells l).length = l.length * 3 := fun l => by
    induction l with
    | nil => rfl
    | cons x l ih => simp only [stopsCells, List.flatMap_cons, List.length_append, List.length_cons, PStop.cells] at ih ⊢; rw [ih]; simp; omega
  rw [hfl] at hjl
  obtain ⟨x, hx⟩ := get_of_lt (l := l) (k := j / 3) (by omega)
  have e1 : j / 3 * 3 + j % 3 = j := by omega
  have := flat_get (f := PStop.cells) (m := 3) (fun _ => rfl) l (j / 3) (j % 3) x hx (by omega)
  rw [e1] at this
  rw [stopsCells, this] at hu
  obtain ⟨g', o', e, _, hc⟩ := h (j / 3) x hx
  cases e
  have := hc (j % 3) u hu
  rw [add_plain, ← this]
  congr 2; omega
theorem stopsCells_len (l : List PStop) : (stopsCells l).length = l.length * 3 := by
  induction l with
  | nil => rfl
  | cons x l ih => simp only [stopsCells, List.flatMap_cons, List.length_append, List.length_cons, PStop.cells] at ih ⊢; rw [ih]; simp; omega
theorem stopsCells_one (l : List PStop) : ∀ u ∈ stopsCells l, u.oneCell' = true := by
  intro u hu
  obtain ⟨x, _, hx⟩ := List.mem_flatMap.1 hu
  simp only [PStop.cells, List.mem_cons, List.not_mem_nil, or_false] at hx
  rcases hx with rfl | rfl | rfl <;> rfl
theorem IntsA.flat {w : World} {g o : Nat} {l : List Int} (h : IntsA w (some ⟨g, o, none⟩) l) : ∀ j u, (intsCells l)[j]? = some u → w.cell? ((⟨g, o, none⟩ : Addr).add j) = some u := by
  intro j u hu
  obtain ⟨x, hx, rfl⟩ : ∃ x, l[j]? = some x ∧ Value.int .i64 x = u := by simpa [intsCells] using hu
  obtain ⟨g', o', e, _, hc⟩ := h j x hx
  cases e
  have := hc 0 _ rfl
  rw [add_plain, ← this]
  simp
theorem StopsA.nil_len {w : World} {l : List PStop} (h : StopsA w none l) : l = [] := by
  cases l with
  | nil => rfl
  | cons x l => obtain ⟨g, o, e, _⟩ := h 0 x rfl; cases e
theorem IntsA.nil_len {w : World} {l : List Int} (h : IntsA w none l) : l = [] := by
  cases l with
  | nil => rfl
  | cons x l => obtain ⟨g, o, e, _⟩ := h 0 x rfl; cases e
theorem StopsA.plain {w : World} {a : Addr} {l : List PStop} (h : StopsA w (some a) l) (h0 : l ≠ []) : ∃ g o, a = ⟨g, o, none⟩ := by
  obtain ⟨x, hx⟩ := get_of_lt (l := l) (k := 0) (List.length_pos_iff.2 h0)
  obtain ⟨g, o, e, _⟩ := h 0 x hx
  exact ⟨g, o, Option.some.inj e⟩
theorem IntsA.plain {w : World} {a : Addr} {l : List Int} (h : IntsA w (some a) l) (h0 : l ≠ []) : ∃ g o, a = ⟨g, o, none⟩ := by
  obtain ⟨x, hx⟩ := get_of_lt (l := l) (k := 0) (List.length_pos_iff.2 h0)
  obtain ⟨g, o, e, _⟩ := h 0 x hx
  exact ⟨g, o, Option.some.inj e⟩
theorem intsCells_len1 (l : List Int) : (intsCells l).length = l.length * 1 := by simp [intsCells]
theorem intsCells_one (l : List Int) : ∀ u ∈ intsCells l, u.oneCell' = true := by
  intro u hu
  obtain ⟨x, _, rfl⟩ := List.mem_map.1 hu
  rfl

set_option maxRecDepth 100000 in
set_option maxHeartbeats 1000000 in
theorem clone_stops (a : Option Addr) (c n : Nat) (l : List PStop) (w : World) (h : StopsA w a l) (hn : l.length = n) (hl : n ≤ 4398046511104) :
    Calls Tryd.prog 86 #[.slice a n c] w (CloneR 64 3 w n (stopsCells l)) := by
  subst hn
  obtain ⟨i0, hi, hz0, hz1, hz2⟩ := info_parts info_stop
  have q36 : ∀ (w : World) (a : Option Addr) (n c n' c' : Nat), (binOp .eql 36 (.slice a n c) (.slice none n' c')).run Tryd.prog w = .ok (.bool a.isNone) w := fun w a n c n' c' => Lib.run_eql_slice_nil w _ _ a n c n' c' Tryd.underlying36
  have hlit : (w.alloc (.cells #[] 64)).ownsRow w.heap.size 64 3 (.slice (some ⟨w.heap.size, 0, none⟩) 0 0) 0 [] := mlit w 64 3 w.heap.size (Nat.le_refl _)
  have hb0 : Below w.heap.size w (w.alloc (.cells #[] 64)) := (Below.refl _ _).alloc (Nat.le_refl _) _
  cases a with
  | none =>
    obtain rfl := h.nil_len
    go_enter Tryd.func86, Tryd.ntmps86
    go_wp2_with fail
    go_ret
    exact ⟨_, rfl, World.ownsRow_nil _ _ _ _, Below.refl _ _⟩
  | some ad =>
    have hcells : ∀ j u, (stopsCells l)[j]? = some u → (w.alloc (.cells #[] 64)).cell? (ad.add j) = some u := by
      by_cases h0 : l = []
      · subst h0; intro j u hu; simp [stopsCells] at hu
      · obtain ⟨g, o, rfl⟩ := (h.below hb0).plain h0
        exact (h.below hb0).flat
    clear h
    go_enter Tryd.func86, Tryd.ntmps86
    go_wp2_with (first | (at_builtin; refine wpList_append_own _ rfl (.tmp 5) (.tmp 6) 36 rfl w.heap.size 64 i0 (.agg #[.string ⟨#[]⟩, .int .i64 0, .int .i64 0]) 3 32 Tryd.underlying36 hi hz0 hz1 hz2 rfl (by decide) _ 0 [] rfl hlit ad l.length c (stopsCells l) rfl (stopsCells_len l) hcells (stopsCells_one l) (by unfold maxLen; omega) (by omega) (by rw [World.size_alloc]; omega) ?_; intro v' w9 hown9 hgrow _; have hbel9 := mbelow_grow hb0 (by rw [World.size_alloc]; omega) hlit hgrow))
    go_ret
    exact ⟨_, rfl, mown_cast hown9 (by omega) (by simp), hbel9⟩

set_option maxRecDepth 100000 in
set_option maxHeartbeats 1000000 in
theorem clone_ints (a : Option Addr) (c n : Nat) (l : List Int) (w : World) (h : IntsA w a l) (hn : l.length = n) (hl : n ≤ 17592186044416) :
    Calls Tryd.prog 91 #[.slice a n c] w (CloneR 3 1 w n (intsCells l)) := by
  subst hn
  obtain ⟨i0, hi, hz0, hz1, hz2⟩ := info_parts info_int
  have q36 : ∀ (w : World) (a : Option Addr) (n c n' c' : Nat), (binOp .eql 37 (.slice a n c) (.slice none n' c')).run Tryd.prog w = .ok (.bool a.isNone) w := fun w a n c n' c' => Lib.run_eql_slice_nil w _ _ a n c n' c' Tryd.underlying37
  have hlit : (w.alloc (.cells #[] 3)).ownsRow w.heap.size 3 1 (.slice (some ⟨w.heap.size, 0, none⟩) 0 0) 0 [] := mlit w 3 1 w.heap.size (Nat.le_refl _)
  have hb0 : Below w.heap.size w (w.alloc (.cells #[] 3)) := (Below.refl _ _).alloc (Nat.le_refl _) _
  cases a with
  | none =>
    obtain rfl := h.nil_len
    go_enter Tryd.func91, Tryd.ntmps91
    go_wp2_with fail
    go_ret
    exact ⟨_, rfl, World.ownsRow_nil _ _ _ _, Below.refl _ _⟩
  | some ad =>
    have hcells : ∀ j u, (intsCells l)[j]? = some u → (w.alloc (.cells #[] 3)).cell? (ad.add j) = some u := by
      by_cases h0 : l = []
      · subst h0; intro j u hu; simp [intsCells] at hu
      · obtain ⟨g, o, rfl⟩ := (h.below hb0).plain h0
        exact (h.below hb0).flat
    clear h
    go_enter Tryd.func91, Tryd.ntmps91
    go_wp2_with (first | (at_builtin; refine wpList_append_own _ rfl (.tmp 5) (.tmp 6) 37 rfl w.heap.size 3 i0 (.int .i64 0) 1 8 Tryd.underlying37 hi hz0 hz1 hz2 rfl (by decide) _ 0 [] rfl hlit ad l.length c (intsCells l) rfl (intsCells_len1 l) hcells (intsCells_one l) (by unfold maxLen; omega) (by omega) (by rw [World.size_alloc]; omega) ?_; intro v' w9 hown9 hgrow _; have hbel9 := mbelow_grow hb0 (by rw [World.size_alloc]; omega) hlit hgrow))
    go_ret
    exact ⟨_, rfl, mown_cast hown9 (by omega) (by simp), hbel9⟩
end Go.Proofs.YtaijdpckkobofaaDoor
