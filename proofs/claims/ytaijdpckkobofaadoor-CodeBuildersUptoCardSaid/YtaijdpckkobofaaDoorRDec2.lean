/- The reference's get and text; a copy of bytes. -/
import Derived.Test.YtaijdpckkobofaaDoorRDec1
namespace Go.Proofs.YtaijdpckkobofaaDoor
open Go.RowKit
set_option linter.unusedVariables false

def RGetOut (bs : List UInt8) (k p : Nat) (e : Ending) : Prop :=
  ∃ (x q : Nat) (atI : Int) (ok : Bool), e = .returned (.tuple #[.int .i64 x, .int .i64 atI, .bool ok]) ∧ x < 256 ^ k ∧ (ok = true → atI = (q : Int) ∧ q ≤ bs.length) ∧ Step false (numR k (bs.drop p)) (!ok) x (bs.drop q)

set_option maxRecDepth 100000 in
set_option maxHeartbeats 2000000 in
theorem rget (a : Option Addr) (n c k p : Nat) (pI kI : Int) (bs : List UInt8) (w : World) (hA : BsA w a bs) (hn : bs.length = n) (hk : k = 1 ∨ k = 2 ∨ k = 4) (hp : p ≤ n) (hpI : (p : Int) = pI) (hkI : (k : Int) = kI) (hb : n ≤ 140737488355328) :
    Calls Tryd.prog 54 #[.slice a n c, .int .i64 pI, .int .i64 kI] w fun e w' => RGetOut bs k p e ∧ w = w' := by
  subst hpI hkI
  by_cases hle : p + k ≤ n
  · have HG := Lib.hid (rGet a n c k p bs w hA hn hk hle hb)
    have hr : numR k (bs.drop p) = some (beOf ((bs.drop p).take k), (bs.drop p).drop k) := by
      unfold numR; rw [if_pos (by rw [List.length_drop, hn]; omega)]
    obtain ⟨x, hx⟩ : ∃ x, beOf ((bs.drop p).take k) = x := ⟨_, rfl⟩
    rw [hx] at hr HG
    have hxl := (numR_spec hr).2.2.2
    have hx4 : x < 4294967296 := by
      have h44 : 256 ^ k ≤ 256 ^ 4 := Nat.pow_le_pow_right (by omega) (by omega)
      omega
    have HR := Lib.hid hr
    have HXL := Lib.hid hxl
    have HN := Lib.hid hn
    have hk4 : k ≤ 4 := by omega
    have hgt : (k : Int) ≤ (n : Int) - (p : Int) := by omega
    clear hr hxl hn hk hx hA
    go_enter Tryd.func54, Tryd.ntmps54
    go_wp2_with fail
    refine HG.out.mono ?_
    rintro e w' ⟨rfl, rfl⟩
    go_wp2_with fail
    refine bodyPost_ret (v := .tuple #[.int .i64 x, .int .i64 ((p : Int) + (k : Int)), .bool true]) ?_ rfl ?_
    · simp [results, Tryd.results54, go_sem]
    refine ⟨⟨x, p + k, (p : Int) + (k : Int), true, rfl, HXL.out, fun _ => ⟨by omega, by rw [HN.out]; exact hle⟩, Or.inl ⟨rfl, rfl, ?_⟩⟩, rfl⟩
    rw [HR.out, List.drop_drop]
  · have hr : numR k (bs.drop p) = none := by
      unfold numR; rw [if_neg (by rw [List.length_drop, hn]; omega)]
    have HR := Lib.hid hr
    have hgt : (n : Int) - (p : Int) < (k : Int) := by omega
    have hk4 : k ≤ 4 := by omega
    clear hr hn hk hA hle
    go_enter Tryd.func54, Tryd.ntmps54
    go_wp2_with fail
    refine bodyPost_ret (v := .tuple #[.int .i64 0, .int .i64 (-1), .bool false]) ?_ rfl ?_
    · simp [results, Tryd.results54, go_sem]
    exact ⟨⟨0, 0, -1, false, rfl, Nat.pos_of_ne_zero (by simp), fun h => (by cases h), Step.of_none HR.out⟩, rfl⟩

set_option maxRecDepth 100000 in
theorem mcopy (a : Option Addr) (c n : Nat) (l : List UInt8) (w : World) (h : BsA w a l) (hn : l.length = n) (hc : a = none → c = 0) (hl : n ≤ 140737488355328) :
    Calls Tryd.prog 15 #[.slice a n c] w (CloneOut w l) := by
  subst hn
  obtain ⟨i0, hi, hz0, hz1, hz2⟩ := info_parts minfo_u8
  have hlit := mlit w 5 1 w.heap.size (Nat.le_refl _)
  have hb0 : Below w.heap.size w (w.alloc (.cells #[] 5)) := (Below.refl _ _).alloc (Nat.le_refl _) _
  cases a with
  | none =>
    obtain rfl := h.nil_len
    obtain rfl := hc rfl
    go_enter Tryd.func15, Tryd.ntmps15
    go_wp2_with (first | (at_builtin; refine wpList_append_own_none rfl (.tmp 3) (.tmp 4) 35 rfl w.heap.size 5 i0 1 Tryd.underlying35 hi _ 0 _ rfl hlit rfl ?_))
    go_ret
    exact ⟨_, rfl, hlit, hb0⟩
  | some ad =>
    have hcells := (h.below hb0).cells
    clear h
    go_enter Tryd.func15, Tryd.ntmps15
    go_wp2_with (first | (at_builtin; refine wpList_append_own _ rfl (.tmp 3) (.tmp 4) 35 rfl w.heap.size 5 i0 (.int .u8 0) 1 1 Tryd.underlying35 hi hz0 hz1 hz2 rfl (by decide) _ 0 [] rfl hlit ad l.length c (Lib.byteCells l) rfl (by simp [Lib.byteCells]) hcells (bytesOk.cells l).one (by unfold maxLen; omega) (by omega) (by rw [World.size_alloc]; omega) ?_; intro v' w9 hown9 hgrow _; have hbel9 := mbelow_grow hb0 (by rw [World.size_alloc]; omega) hlit hgrow))
    go_ret
    exact ⟨_, rfl, mown_cast hown9 (by omega) (by simp), hbel9⟩

def RTextOut (bs : List UInt8) (m p : Nat) (w : World) (e : Ending) (w' : World) : Prop :=
  ∃ (v : Value) (x : List UInt8) (q : Nat) (atI : Int) (ok : Bool), e = .returned (.tuple #[v, .int .i64 atI, .bool ok]) ∧ w'.ownsRow w.heap.size 5 1 v x.length (Lib.byteCells x) ∧ Below w.heap.size w w' ∧ (ok = true → atI = (q : Int) ∧ q ≤ bs.length) ∧ Step false (takeR m (bs.drop p)) (!ok) x (bs.drop q)

set_option maxRecDepth 100000 in
set_option maxHeartbeats 2000000 in
theorem rtext (a : Option Addr) (n c m p : Nat) (pI : Int) (bs : List UInt8) (w : World) (hA : BsA w a bs) (hn : bs.length = n) (hcl : n ≤ c) (hnil : a = none → c = 0) (hp : p ≤ n) (hpI : (p : Int) = pI) (hb : n ≤ 140737488355328) (hm32 : m ≤ 4294967296) :
    Calls Tryd.prog 99 #[.slice a n c, .int .i64 pI, .int .i64 m] w (RTextOut bs m p w) := by
  subst hpI
  by_cases hle : p + m ≤ n
  · obtain ⟨da', hs, hd⟩ := slice_mid a bs n c p m hn hcl hnil hle hb
    have hx : takeR m (bs.drop p) = some ((bs.drop p).take m, (bs.drop p).drop m) := by unfold takeR; rw [if_pos (by rw [List.length_drop, hn]; omega)]
    have hxl : ((bs.drop p).take m).length = m := by rw [List.length_take, List.length_drop]; omega
    obtain ⟨x, hxe⟩ : ∃ x, (bs.drop p).take m = x := ⟨_, rfl⟩
    rw [hxe] at hx hxl
    have hda : BsA w da' x := by rw [← hxe]; exact hd w hA
    have hdn : da' = none → c - p = 0 := by
      intro h0
      subst h0
      have := hs w
      cases a with
      | none => have := hnil rfl; omega
      | some ad =>
        exfalso
        have e1 : ((p : Int) + (m : Int)).toNat = p + m := by omega
        simp [go_sem, e1] at this
        rw [if_pos ⟨by omega, by omega⟩] at this
        by_cases hc : c = p
        · simp [hc] at this
        · simp [hc] at this
    have HC := Lib.hid (mcopy da' (c - p) m x w hda hxl hdn (by omega))
    have HX := Lib.hid hx
    have HN := Lib.hid hn
    have hgt : (m : Int) ≤ (n : Int) - (p : Int) := by omega
    clear hx hxl hn hd hA hda hdn hxe hnil
    go_enter Tryd.func99, Tryd.ntmps99
    go_wp2_with fail
    refine HC.out.mono ?_
    rintro e w1 ⟨v, rfl, ho, hb1⟩
    have HO := Lib.hid ho
    have HB := Lib.hid hb1
    obtain ⟨a1, n1, c1, rfl⟩ := own_slice ho
    clear ho hb1 hs
    go_wp2_with fail
    refine bodyPost_ret (v := .tuple #[.slice a1 n1 c1, .int .i64 ((p : Int) + (m : Int)), .bool true]) ?_ rfl ?_
    · simp [results, Tryd.results99, go_sem]
    refine ⟨_, x, p + m, _, true, rfl, ?_, HB.out, fun _ => ⟨by omega, by rw [HN.out]; exact hle⟩, Or.inl ⟨rfl, rfl, by rw [HX.out, List.drop_drop]⟩⟩
    have := (takeR_some HX.out).2.2.2
    rw [this]; have h2 := HO.out; rwa [this] at h2
  · have hx : takeR m (bs.drop p) = none := by unfold takeR; rw [if_neg (by rw [List.length_drop, hn]; omega)]
    have HX := Lib.hid hx
    have hgt : (n : Int) - (p : Int) < (m : Int) := by omega
    clear hx hn hA hle hnil
    go_enter Tryd.func99, Tryd.ntmps99
    go_wp2_with fail
    refine bodyPost_ret (v := .tuple #[.slice none 0 0, .int .i64 (-1), .bool false]) ?_ rfl ?_
    · simp [results, Tryd.results99, go_sem]
    exact ⟨_, [], 0, -1, false, rfl, World.ownsRow_nil _ _ _ _, Below.refl _ _, fun h => (by cases h), Step.of_none HX.out⟩
end Go.Proofs.YtaijdpckkobofaaDoor
