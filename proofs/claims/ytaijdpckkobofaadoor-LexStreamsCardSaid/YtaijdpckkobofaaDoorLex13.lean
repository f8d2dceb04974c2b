/- ref21.Quote, ref01.Hex of one byte. -/
import Derived.Test.YtaijdpckkobofaaDoorLex12
namespace Go.Proofs.YtaijdpckkobofaaDoor
open Go.RowKit
set_option linter.unusedVariables false

theorem hexd_nat : ∀ d : Fin 16, (hexd d.val).toNat = if d.val < 10 then 48 + d.val else 87 + d.val := by decide

theorem letter01_any (n : Nat) (x : Int) (hn : n < 16) (hx : x = (n : Int)) (w : World) :
    Calls Tryd.prog 117 #[.int .u8 x] w fun e w' => e = .returned (.int .u8 ((hexd n).toNat : Int)) ∧ w = w' := by
  subst hx
  have h := hexd_nat ⟨n, hn⟩
  simp only at h
  by_cases h10 : n < 10
  · rw [if_pos h10] at h
    rw [h]
    go_enter Tryd.func117, Tryd.ntmps117
    go_wp2_with fail
    go_ret
    exact ⟨ret_int (by omega), rfl⟩
  · rw [if_neg h10] at h
    rw [h]
    go_enter Tryd.func117, Tryd.ntmps117
    go_wp2_with fail
    go_ret
    exact ⟨ret_int (by omega), rfl⟩

theorem grow_keep {w w9 : World} {o : Obj} {row : Option Nat} {g off : Nat} {v : Value} (hgrow : ((w.alloc o).drew).grownBy w9 row) (hc : w.cell? ⟨g, off, none⟩ = some v) (hg : g < w.heap.size) (hrow : some g ≠ row) : w9.cell? ⟨g, off, none⟩ = some v := by
  refine hgrow.cell (a := ⟨g, off, none⟩) ?_ hrow
  exact (((Below.refl w.heap.size w).alloc (Nat.le_refl _) _).cell (p := ⟨g, off, none⟩) hg).trans hc

def hexI (x : Int) : Int := ((hexd x.toNat).toNat : Int)
theorem letter_int (x : Int) (w : World) (h0 : 0 ≤ x) (h1 : x < 16) : Calls Tryd.prog 117 #[.int .u8 x] w fun e w' => e = .returned (.int .u8 (hexI x)) ∧ w = w' :=
  letter01_any x.toNat x (by omega) (by omega) w

set_option maxRecDepth 100000 in
set_option maxHeartbeats 600000 in
theorem hex_one (g o c u : Nat) (w : World) (hg : g < w.heap.size) (hc : w.cell? ⟨g, o, none⟩ = some (.int .u8 u)) (hu : u < 256) :
    Calls Tryd.prog 71 #[.slice (some ⟨g, o, none⟩) 1 c] w fun e w' => e = .returned (.string ⟨#[hexd (u / 16), hexd (u % 16)]⟩) ∧ Below w.heap.size w w' := by
  obtain ⟨i0, hi, hz0, hz1, hz2⟩ := info_parts info_u8
  have HF : Hid (([.int .u8 (hexI ((u : Int) / 16)), .int .u8 (hexI ((u : Int) % 16))] : List Value) = Lib.byteCells [hexd (u / 16), hexd (u % 16)]) := Lib.hid (by
    have e1 : ((u : Int) / 16).toNat = u / 16 := by omega
    have e2 : ((u : Int) % 16).toNat = u % 16 := by omega
    unfold hexI
    rw [e1, e2]
    rfl)
  generalize hexd (u / 16) = b1 at *
  generalize hexd (u % 16) = b2 at *
  have hnil := World.ownsRow_nil w w.heap.size 5 1
  have hw1 : IntKind.u8.wrap ((u : Int) / 16) = (u : Int) / 16 := IntWalk.u8_in _ (by omega)
  have hw2 : (u : Int).tmod 16 = (u : Int) % 16 := IntWalk.rem_in _ _ (by omega)
  go_enter Tryd.func71, Tryd.ntmps71
  go_wp2_with fail
  refine wp_loop_rounds 2 ?_
  rw [rounds_succ]
  go_upto_region 5 with fail
  go_region_held3 (fun w' => w'.cell? ⟨g, o, none⟩ = some (.int .u8 u)) (first | go_keep | exact grow_keep hgrow9 hc hg (by simp [Value.ownBlock])) (first | (go_at_call 117; refine (letter_int _ _ (by omega) (by omega)).mono ?_; rintro e w' ⟨rfl, rfl⟩) | (refine step_append_own rfl (.tmp 11) (.tmp 24) 35 rfl w.heap.size 5 i0 (.int .u8 0) 1 1 Tryd.underlying35 hi hz0 hz1 hz2 rfl (by decide) _ 0 [] (by simp [Act.eval]) (hnil.alloc _) ⟨w.heap.size, 0, none⟩ 2 2 [.int .u8 (hexI ((u : Int) / 16)), .int .u8 (hexI ((u : Int) % 16))] (by simp [Act.eval]) rfl (cells_new _ [_, _] _) (two_cell _ _) (by decide) (by decide) (le_alloc_drew (Nat.le_refl _) _) ?_; intro v9 w9 hown9 hgrow9))
  all_goals
    have hown := own_cast (n' := 2) (xs' := Lib.byteCells [b1, b2]) hown9 rfl HF.out
    have hbel : Below w.heap.size w w9 := below_grow (Below.drew ((Below.refl w.heap.size w).alloc (Nat.le_refl _) _)) (le_alloc_drew (Nat.le_refl _) _) (hnil.alloc _) hgrow9
    have hcv := conv_own hown
    clear hown9 hgrow9
    go_wp2_with fail
    rw [rounds_succ]
    go_wp2_with fail
    go_ret
    exact ⟨rfl, hbel⟩

/-- string(b[i:i+1]) -/
theorem conv_one (g off cap u : Nat) (x : UInt8) (hx : x.toNat = u) (W : World) (c0 : W.cell? ⟨g, off, none⟩ = some (.int .u8 u)) :
    (convert 35 9 (.slice (some ⟨g, off, none⟩) 1 cap)).run Tryd.prog W = .ok (.string ⟨#[x]⟩) W := by
  subst hx
  refine run_convert_bytes_back (P := Tryd.prog) W 35 9 5 ⟨g, off, none⟩ cap [x] Tryd.underlying35 Tryd.underlying5 Tryd.underlying9 ?_
  intro j hj
  simp only [List.length_cons, List.length_nil] at hj
  match j, hj with
  | 0, _ => simpa [add_plain] using c0

/-- so far quoted, as a string -/
def QuotedS (l : List UInt8) (k : Nat) (s : ByteArray) : Prop := s.data.toList = 34 :: (l.take k).flatMap qByte
theorem QuotedS.step {l : List UInt8} {k : Nat} {s s' : ByteArray} {x : UInt8} (h : QuotedS l k s) (hx : l[k]? = some x) (hs : s'.data.toList = s.data.toList ++ qByte x) : QuotedS l (k + 1) s' := by
  unfold QuotedS at *
  rw [hs, h, List.take_add_one, hx]
  simp
theorem app_list (s : ByteArray) (a : Array UInt8) : (s ++ ⟨a⟩).data.toList = s.data.toList ++ a.toList := by simp

set_option maxRecDepth 100000 in
set_option maxHeartbeats 1000000 in
theorem rquote_at (a : Option Addr) (c : Nat) (l : List UInt8) (w : World) (h : ByA w a l) (hcl : l.length ≤ c) (hl : l.length ≤ 100000) :
    Calls Tryd.prog 30 #[.slice a l.length c] w fun e w' => e = .returned (.string ⟨(quoteOf l).toArray⟩) ∧ Below w.heap.size w w' := by
  have HA := Lib.hid h
  clear h
  go_enter Tryd.func30, Tryd.ntmps30
  go_wp2_with fail
  go_loopw [3, 4] (fun v i wr => ∃ (k : Nat) (s : ByteArray), k ≤ l.length ∧ i = .int .i64 k ∧ v = .string s ∧ Below w.heap.size w wr ∧ s.size ≤ 4 * k + 1 ∧ QuotedS l k s) (fun _ i _ => l.length - (intOf i).toNat)
  case atStart => exact ⟨0, ⟨#[34]⟩, Nat.zero_le _, rfl, rfl, Below.refl _ _, by decide, rfl⟩
  case round =>
    obtain ⟨k, s, hk, rfl, rfl, hbel, hm, hq⟩ := hrel
    have hsz := hbel.size
    have HQ := Lib.hid hq
    clear hq
    by_cases hlt : k < l.length
    · obtain ⟨x, hx⟩ : ∃ x, l[k]? = some x := ⟨_, List.getElem?_eq_getElem hlt⟩
      obtain ⟨g, o, rfl, hg, hc⟩ := (HA.out.below hbel) k x hx
      have HS : Hid (∀ s', s'.data.toList = s.data.toList ++ qByte x → QuotedS l (k + 1) s') := Lib.hid fun s' hs => HQ.out.step hx hs
      have hu8 := x.toNat_lt
      have HX : Hid (qByte x = if x.toNat = 34 ∨ x.toNat = 92 then [92, x] else if x.toNat = 10 then [92, 110] else if x.toNat < 32 ∨ 126 < x.toNat then [92, 120, hexd (x.toNat / 16), hexd (x.toNat % 16)] else [x]) := Lib.hid rfl
      obtain ⟨u, hu⟩ : ∃ u, x.toNat = u := ⟨_, rfl⟩
      have HXu := Lib.hid hu
      have hbx : x = UInt8.ofNat u := by rw [← hu, UInt8.ofNat_toNat]
      have Hbx := Lib.hid hbx
      rw [hu] at hc hu8 HX
      have hkc : (k : Int) + 1 ≤ (c : Int) := by omega
      clear hx hu hbx
      by_cases h34 : u = 34
      · rw [if_pos (Or.inl h34)] at HX
        subst h34
        go_wp2_with fail
        go_roundw
        case rel => exact ⟨k + 1, _, by omega, by go_num, rfl, hbel, by rw [ByteArray.size_append]; show _ + 2 ≤ _; omega, HS.out _ (by rw [app_list, HX.out, Hbx.out]; rfl)⟩
        case measure => simp [intOf]; omega
      · have e34 : ((u : Int) == 34) = false := by rw [beq_eq_false_iff_ne]; omega
        by_cases h92 : u = 92
        · rw [if_pos (Or.inr h92)] at HX
          subst h92
          clear h34
          go_wp2_with fail
          go_roundw
          case rel => exact ⟨k + 1, _, by omega, by go_num, rfl, hbel, by rw [ByteArray.size_append]; show _ + 2 ≤ _; omega, HS.out _ (by rw [app_list, HX.out, Hbx.out]; rfl)⟩
          case measure => simp [intOf]; omega
        · rw [if_neg (by omega)] at HX
          have e92 : ((u : Int) == 92) = false := by rw [beq_eq_false_iff_ne]; omega
          clear h34 h92
          by_cases h10 : u = 10
          · rw [if_pos h10] at HX
            subst h10
            go_wp2_with fail
            go_roundw
            case rel => exact ⟨k + 1, _, by omega, by go_num, rfl, hbel, by rw [ByteArray.size_append]; show _ + 2 ≤ _; omega, HS.out _ (by rw [app_list, HX.out])⟩
            case measure => simp [intOf]; omega
          · rw [if_neg h10] at HX
            have e10 : ((u : Int) == 10) = false := by rw [beq_eq_false_iff_ne]; omega
            clear h10
            by_cases hbad : u < 32 ∨ 126 < u
            · rw [if_pos hbad] at HX
              have HH : Hid (∀ cap, Calls Tryd.prog 71 #[.slice (some ⟨g, o + k, none⟩) 1 cap] wr fun e w' => e = .returned (.string ⟨#[hexd (u / 16), hexd (u % 16)]⟩) ∧ Below wr.heap.size wr w') := Lib.hid fun cap => hex_one g (o + k) cap u wr hg hc hu8
              generalize hexd (u / 16) = ha at *
              generalize hexd (u % 16) = hb at *
              rcases hbad with hbad | hbad
              all_goals
                go_wp2_with fail
                refine (HH.out _).mono ?_
                rintro e w2 ⟨rfl, hb2⟩
                have hbel2 := hbel.trans (hb2.mono hsz)
                clear hb2
                go_wp2_with fail
                go_roundw
                case rel => exact ⟨k + 1, _, by omega, by go_num, rfl, hbel2, by rw [ByteArray.size_append, ByteArray.size_append]; show _ + 2 + 2 ≤ _; omega, HS.out _ (by rw [app_list, app_list, HX.out]; simp)⟩
                case measure => simp [intOf]; omega
            · rw [if_neg hbad] at HX
              have hlo : (32 : Int) ≤ (u : Int) := by omega
              have hhi : (u : Int) ≤ 126 := by omega
              have hcv := fun cap => conv_one g (o + k) cap u x HXu.out wr hc
              clear hbad
              go_wp2_with fail
              go_roundw
              case rel => exact ⟨k + 1, _, by omega, by go_num, rfl, hbel, by rw [ByteArray.size_append]; show _ + 1 ≤ _; omega, HS.out _ (by rw [app_list, HX.out])⟩
              case measure => simp [intOf]; omega
    · have HE : Hid (s ++ ⟨#[34]⟩ = ⟨(quoteOf l).toArray⟩) := Lib.hid (by
        have := HQ.out
        unfold QuotedS at this
        rw [List.take_of_length_le (by omega)] at this
        exact ba_ext (by rw [app_list, this]; rfl))
      go_wp2_with fail
      go_ret
      refine ⟨?_, hbel⟩
      show Ending.returned (.string (s ++ ⟨#[34]⟩)) = _
      rw [HE.out]
end Go.Proofs.YtaijdpckkobofaaDoor
