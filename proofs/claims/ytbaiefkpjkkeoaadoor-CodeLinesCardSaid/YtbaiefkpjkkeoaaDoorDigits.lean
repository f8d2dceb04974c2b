/- ref18.Digits: the decimal digits of a number, as the shelf's itoa tells them. -/
import Derived.Test.YtbaiefkpjkkeoaaDoorKit
import Derived.Lib.ItoaLen
import Derived.Lib.ItoaMem
import Derived.Laws.AppendOwnNone
namespace Go.Proofs.YtbaiefkpjkkeoaaDoor
open Go.RowKit
set_option linter.unusedVariables false

theorem info_u8 : (Tryd.prog.info? 5).map (fun i => (i.zero, i.size, i.bytes)) = some (some (.int .u8 0), 1, 1) := by kernel_rfl

/-- string(b) of an owned row of bytes -/
theorem conv_own {w : World} {B : Nat} {v : Value} {n : Nat} {l : List UInt8} (h : w.ownsRow B 5 1 v n (Lib.byteCells l)) : (convert 39 9 v).run Tryd.prog w = .ok (.string ⟨l.toArray⟩) w := by
  have hl := h.1
  rcases h.2 with ⟨rfl, hn⟩ | ⟨g, cap, cur, rfl, hg, hh, hnc, hcm, hcs, htk⟩
  · have : l = [] := List.eq_nil_of_length_eq_zero (by simp [Lib.byteCells] at hl; omega)
    subst this
    have := run_convert_bytes_nil (P := Tryd.prog) w 39 5 Tryd.underlying39 Tryd.underlying5 0 0 9 Tryd.underlying9
    exact this
  · have hll : l.length = n := by simp [Lib.byteCells] at hl; omega
    subst hll
    refine run_convert_bytes_back (P := Tryd.prog) w 39 9 5 ⟨g, 0, none⟩ cap l Tryd.underlying39 Tryd.underlying5 Tryd.underlying9 ?_
    intro j hj
    refine h.cells (g := g) rfl j _ ?_
    simp [Lib.byteCells, hj]

/-- what the loop keeps: the digits still to come, and those that are there -/
def DigRel (n m : Int) (acc : List UInt8) : Prop := Lib.decDigits n.natAbs = Lib.decDigits m.natAbs ++ acc ∧ -9223372036854775808 ≤ m ∧ m ≤ 9223372036854775807

theorem DigRel.len {n m : Int} {acc : List UInt8} (h : DigRel n m acc) (h0 : -9223372036854775808 ≤ n) (h1 : n ≤ 9223372036854775807) : acc.length ≤ 21 := by
  have h2 := Lib.itoa_length_le n h0 h1
  have h3 : (Lib.decDigits n.natAbs).length ≤ (Lib.itoa n).length := by
    unfold Lib.itoa; split
    · simp
    · rename_i hn; rw [show n.natAbs = n.toNat from by omega]; exact Nat.le_refl _
  have h4 := congrArg List.length h.1
  simp at h4
  omega

/-- the last digit of a number, as a letter -/
def digU (m : Int) : UInt8 := UInt8.ofNat (48 + m.natAbs % 10)

theorem DigRel.last {n m : Int} {acc : List UInt8} (h : DigRel n m acc) (hm : m.tdiv 10 = 0) : Lib.decDigits n.natAbs = digU m :: acc := by
  unfold digU
  have : m.natAbs < 10 := by
    have := Int.natAbs_tdiv m 10
    rw [hm, Int.natAbs_zero] at this
    have h10 : m.natAbs.div (Int.natAbs 10) = m.natAbs / 10 := rfl
    omega
  rw [h.1, Lib.decDigits, dif_pos this, Nat.mod_eq_of_lt this]
  rfl

theorem DigRel.next {n m : Int} {acc : List UInt8} (h : DigRel n m acc) (hm : m.tdiv 10 ≠ 0) : DigRel n (m.tdiv 10) (digU m :: acc) := by
  unfold digU
  have hd : (m.tdiv 10).natAbs = m.natAbs / 10 := Int.natAbs_tdiv m 10
  have : ¬ m.natAbs < 10 := by omega
  refine ⟨?_, by have := h.2; omega, by have := h.2; omega⟩
  rw [h.1, Lib.decDigits, dif_neg this, hd]
  simp

theorem tm_abs (m : Int) : (m.tmod 10).natAbs = m.natAbs % 10 := by
  have := Int.natAbs_tmod m 10
  rw [this]; rfl
theorem tm_meas (m : Int) (h : m.tdiv 10 ≠ 0) : (m.tdiv 10).natAbs < m.natAbs := by
  have hd : (m.tdiv 10).natAbs = m.natAbs / 10 := Int.natAbs_tdiv m 10
  omega
theorem tm_bd (m : Int) : -9 ≤ m.tmod 10 ∧ m.tmod 10 ≤ 9 := by
  have := tm_abs m
  omega
theorem dig_toNat (m : Int) : (digU m).toNat = 48 + m.natAbs % 10 := by
  unfold digU
  rw [UInt8.toNat_ofNat']; omega
theorem tm_neg (m : Int) (h : m.tmod 10 < 0) : 48 + -m.tmod 10 = ((digU m).toNat : Int) := by
  have := tm_abs m
  rw [dig_toNat]; omega
theorem tm_pos (m : Int) (h : ¬ m.tmod 10 < 0) : 48 + m.tmod 10 = ((digU m).toNat : Int) := by
  have := tm_abs m
  rw [dig_toNat]; omega
theorem fin_neg {n : Int} {l : List UInt8} (hn : n < 0) (h : Lib.decDigits n.natAbs = l) : Ending.returned (.string (({ data := #[45] } : ByteArray) ++ { data := l.toArray })) = .returned (.string ⟨(Lib.itoa n).toArray⟩) := by
  subst h
  have : (({ data := #[45] } : ByteArray) ++ { data := (Lib.decDigits n.natAbs).toArray }) = ⟨(Lib.itoa n).toArray⟩ := by
    rw [Lib.itoa, if_pos hn]
    apply ByteArray.ext
    simp
  rw [this]
theorem fin_pos {n : Int} {l : List UInt8} (hn : 0 ≤ n) (h : Lib.decDigits n.natAbs = l) : Ending.returned (.string ⟨l.toArray⟩) = .returned (.string ⟨(Lib.itoa n).toArray⟩) := by
  subst h
  rw [Lib.itoa, if_neg (by omega), show n.natAbs = n.toNat from by omega]
theorem below_lit_app {w wr w1 : World} {o : Obj} {n c : Nat} (h : Below w.heap.size w wr) (hg : (wr.alloc o).grownBy w1 (Value.ownBlock (.slice (some ⟨wr.heap.size, 0, none⟩) n c))) : Below w.heap.size w w1 :=
  (h.alloc h.size _).grown hg (by rw [World.size_alloc]; have := h.size; omega) (fun k hk => by
    have e : some wr.heap.size = some k := hk
    have := h.size
    injection e with e; omega)
theorem bc_len (l : List UInt8) : (Lib.byteCells l).length = l.length * 1 := by simp [Lib.byteCells]
theorem own_cons {w : World} {B : Nat} {v : Value} {c : UInt8} {acc : List UInt8} {D : Int} (hD : D = (c.toNat : Int)) (h : w.ownsRow B 5 1 v (1 + acc.length) ([.int .u8 D] ++ Lib.byteCells acc)) :
    w.ownsRow B 5 1 v (c :: acc).length (Lib.byteCells (c :: acc)) := by
  subst hD
  have e : (c :: acc).length = 1 + acc.length := by simp; omega
  rw [e]; exact h

set_option maxRecDepth 100000 in
set_option maxHeartbeats 1000000 in
theorem digits_any (n : Int) (w : World) (h0 : -9223372036854775808 ≤ n) (h1 : n ≤ 9223372036854775807) :
    Calls Tryd.prog 45 #[.int .i64 n] w fun e w' => e = .returned (.string ⟨(Lib.itoa n).toArray⟩) ∧ Below w.heap.size w w' := by
  obtain ⟨i0, hi, hz0, hz1, hz2⟩ := info_parts info_u8
  go_enter Tryd.func45, Tryd.ntmps45
  go_wp2
  go_loopw [0, 3] (fun t b wr => ∃ (m : Int) (acc : List UInt8), t = .int .i64 m ∧ wr.ownsRow w.heap.size 5 1 b acc.length (Lib.byteCells acc) ∧ Below w.heap.size w wr ∧ DigRel n m acc) (fun t _ _ => (intOf t).natAbs)
  case atStart => exact ⟨n, [], rfl, World.ownsRow_nil _ _ _ _, Below.refl _ _, by simp, h0, h1⟩
  case round =>
    obtain ⟨m, acc, rfl, hown, hbel, hrel⟩ := hrel
    have hm0 := hrel.2.1
    have hm1 := hrel.2.2
    have hlen := hrel.len h0 h1
    have HR := Lib.hid hrel
    clear hrel
    have hd1 := (tm_bd m).1
    have hd2 := (tm_bd m).2
    have hb1 : acc.length ≤ 100 := by omega
    have HN := Lib.hid (tm_neg m)
    have HP := Lib.hid (tm_pos m)
    rcases hown.2 with ⟨rfl, hn0⟩ | ⟨g, cap, cur, rfl, hBg, hh, hnc, hcm, hcs, htk⟩
    · obtain rfl : acc = [] := List.eq_nil_of_length_eq_zero hn0
      have step : ∀ D : Int, D = ((digU m).toNat : Int) → (wr.alloc (.cells #[.int .u8 D] 5)).ownsRow w.heap.size 5 1 (.slice (some ⟨wr.heap.size, 0, none⟩) 1 1) 1 (Lib.byteCells (digU m :: [])) := by
        intro D hD
        subst hD
        exact World.ownsRow_lit wr _ 1 hbel.size (by decide) rfl
      have HS := Lib.hid step
      clear step
      by_cases hs : m.tmod 10 < 0
      · have hcv := conv_own (HS.out _ (HN.out hs))
        go_wp2_with (first | (at_builtin; refine wpList_append_own_none rfl (.tmp 17) (.tmp 18) 39 rfl w.heap.size 5 i0 1 Tryd.underlying39 hi _ 1 _ rfl (HS.out _ (HN.out hs)) rfl ?_))
        · have hz : (m.tdiv 10 == 0) = true := by assumption
          have hn : n < 0 := by assumption
          go_ret
          exact ⟨fin_neg hn (HR.out.last (by simpa using hz)), hbel.alloc hbel.size _⟩
        · have hz : (m.tdiv 10 == 0) = true := by assumption
          have hn : 0 ≤ n := by assumption
          go_ret
          exact ⟨fin_pos hn (HR.out.last (by simpa using hz)), hbel.alloc hbel.size _⟩
        · have hz : (m.tdiv 10 == 0) = false := by assumption
          have hz' : m.tdiv 10 ≠ 0 := by simpa using hz
          refine ⟨⟨_, digU m :: [], rfl, HS.out _ (HN.out hs), hbel.alloc hbel.size _, HR.out.next hz'⟩, ?_⟩
          exact tm_meas m hz'
      · have hcv := conv_own (HS.out _ (HP.out hs))
        go_wp2_with (first | (at_builtin; refine wpList_append_own_none rfl (.tmp 17) (.tmp 18) 39 rfl w.heap.size 5 i0 1 Tryd.underlying39 hi _ 1 _ rfl (HS.out _ (HP.out hs)) rfl ?_))
        · have hz : (m.tdiv 10 == 0) = true := by assumption
          have hn : n < 0 := by assumption
          go_ret
          exact ⟨fin_neg hn (HR.out.last (by simpa using hz)), hbel.alloc hbel.size _⟩
        · have hz : (m.tdiv 10 == 0) = true := by assumption
          have hn : 0 ≤ n := by assumption
          go_ret
          exact ⟨fin_pos hn (HR.out.last (by simpa using hz)), hbel.alloc hbel.size _⟩
        · have hz : (m.tdiv 10 == 0) = false := by assumption
          have hz' : m.tdiv 10 ≠ 0 := by simpa using hz
          refine ⟨⟨_, digU m :: [], rfl, HS.out _ (HP.out hs), hbel.alloc hbel.size _, HR.out.next hz'⟩, ?_⟩
          exact tm_meas m hz'
    · have e4 : 1 + acc.length ≤ maxLen := by unfold maxLen; omega
      have e5 : (1 + acc.length) * 1 ≤ 140737488355328 := by omega
      have e6 : ∀ o, w.heap.size ≤ (wr.alloc o).heap.size := fun o => by rw [World.size_alloc]; have := hbel.size; omega
      by_cases hs : m.tmod 10 < 0
      · go_wp2_with (first | (at_builtin; refine wpList_append_own _ rfl (.tmp 17) (.tmp 18) 39 rfl w.heap.size 5 i0 (.int .u8 0) 1 1 Tryd.underlying39 hi hz0 hz1 hz2 rfl (by decide) _ 1 [.int .u8 (48 + -m.tmod 10)] rfl (World.ownsRow_lit wr _ 1 hbel.size (by decide) rfl) ⟨g, 0, none⟩ acc.length cap (Lib.byteCells acc) rfl (bc_len _) ((hown.alloc _).cells (g := g) rfl) (bytesOk.cells _).one e4 e5 (e6 _) ?_; intro v' w1 hown1 hgrow _; have hown2 := own_cons (HN.out hs) hown1; have hcv := conv_own hown2; have hbel1 : Below w.heap.size w w1 := below_lit_app hbel hgrow))
        · have hz : (m.tdiv 10 == 0) = true := by assumption
          have hn : n < 0 := by assumption
          go_ret
          exact ⟨fin_neg hn (HR.out.last (by simpa using hz)), by assumption⟩
        · have hz : (m.tdiv 10 == 0) = true := by assumption
          have hn : 0 ≤ n := by assumption
          go_ret
          exact ⟨fin_pos hn (HR.out.last (by simpa using hz)), by assumption⟩
        · have hz : (m.tdiv 10 == 0) = false := by assumption
          have hz' : m.tdiv 10 ≠ 0 := by simpa using hz
          refine ⟨⟨_, digU m :: acc, rfl, by assumption, by assumption, HR.out.next hz'⟩, ?_⟩
          exact tm_meas m hz'
      · go_wp2_with (first | (at_builtin; refine wpList_append_own _ rfl (.tmp 17) (.tmp 18) 39 rfl w.heap.size 5 i0 (.int .u8 0) 1 1 Tryd.underlying39 hi hz0 hz1 hz2 rfl (by decide) _ 1 [.int .u8 (48 + m.tmod 10)] rfl (World.ownsRow_lit wr _ 1 hbel.size (by decide) rfl) ⟨g, 0, none⟩ acc.length cap (Lib.byteCells acc) rfl (bc_len _) ((hown.alloc _).cells (g := g) rfl) (bytesOk.cells _).one e4 e5 (e6 _) ?_; intro v' w1 hown1 hgrow _; have hown2 := own_cons (HP.out hs) hown1; have hcv := conv_own hown2; have hbel1 : Below w.heap.size w w1 := below_lit_app hbel hgrow))
        · have hz : (m.tdiv 10 == 0) = true := by assumption
          have hn : n < 0 := by assumption
          go_ret
          exact ⟨fin_neg hn (HR.out.last (by simpa using hz)), by assumption⟩
        · have hz : (m.tdiv 10 == 0) = true := by assumption
          have hn : 0 ≤ n := by assumption
          go_ret
          exact ⟨fin_pos hn (HR.out.last (by simpa using hz)), by assumption⟩
        · have hz : (m.tdiv 10 == 0) = false := by assumption
          have hz' : m.tdiv 10 ≠ 0 := by simpa using hz
          refine ⟨⟨_, digU m :: acc, rfl, by assumption, by assumption, HR.out.next hz'⟩, ?_⟩
          exact tm_meas m hz'
end Go.Proofs.YtbaiefkpjkkeoaaDoor
