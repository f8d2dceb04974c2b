/- A cursor: Left, Take; a reader with a flag: take. -/
import Derived.Test.YtaijdpckkobofaaDoorDec1
namespace Go.Proofs.YtaijdpckkobofaaDoor
open Go.RowKit
set_option linter.unusedVariables false

theorem slice_mid (da : Option Addr) (bs : List UInt8) (n cap p m : Nat) (hn : bs.length = n) (hcl : n ≤ cap) (hnil : da = none → cap = 0) (hpm : p + m ≤ n) (hb : n ≤ 140737488355328) :
    ∃ da', (∀ W, (Instr.slice 35 (.slice da n cap) (some (.int .i64 p)) (some (.int .i64 ((p : Int) + (m : Int)))) none).run Tryd.prog W = .ok (.slice da' m (cap - p)) W) ∧ ∀ W, BsA W da bs → BsA W da' ((bs.drop p).take m) := by
  cases da with
  | none =>
    obtain rfl := hnil rfl
    obtain rfl : n = 0 := by omega
    obtain rfl : p = 0 := by omega
    obtain rfl : m = 0 := by omega
    obtain rfl := List.eq_nil_of_length_eq_zero hn
    refine ⟨none, fun W => ?_, fun W h => BsA.nil _ _⟩
    simp [go_sem]
  | some ad =>
    have e1 : ((p : Int) + (m : Int)).toNat = p + m := by omega
    refine ⟨some (if cap = p then ad else ad.add p), fun W => ?_, fun W h => ?_⟩
    · simp [go_sem, e1]
      rw [if_pos ⟨by omega, by omega⟩]
      by_cases hc : cap = p
      · simp [hc]
      · simp [hc]
    · by_cases hc : cap = p
      · have : m = 0 := by omega
        subst this
        exact BsA.nil _ _
      · rw [if_neg hc]
        intro k x hx
        rw [List.getElem?_take] at hx
        split at hx
        · rw [List.getElem?_drop] at hx
          obtain ⟨g, o, e, hg, hcell⟩ := h _ x hx
          cases e
          exact ⟨g, o + p, by rw [add_plain], hg, by rw [Nat.add_assoc]; exact hcell⟩
        · cases hx

set_option maxRecDepth 100000 in
theorem curLeft (b c : Nat) (da : Option Addr) (cap : Nat) (bs : List UInt8) (p : Nat) (en : Bool) (w : World) (h : RdS b c da cap bs p en w) :
    Calls Tryd.prog 52 #[.pointer (some ⟨c, 0, none⟩)] w fun e w' => e = .returned (.int .i64 ((bs.length - p : Nat) : Int)) ∧ Below w.heap.size w w' := by
  obtain ⟨n, hn⟩ : ∃ n, bs.length = n := ⟨_, rfl⟩
  have hp : p ≤ n := by have := h.le; omega
  have hb : n ≤ 140737488355328 := by have := h.big; omega
  have c0 : w.cell? ⟨c, 0, none⟩ = some (.slice da n cap) := by rw [← hn]; exact (Lib.cell_of_heap h.hc _).trans rfl
  have c1 : w.cell? ⟨c, 1, none⟩ = some (.int .i64 p) := (Lib.cell_of_heap h.hc _).trans rfl
  have HN : Hid (((bs.length - p : Nat) : Int) = (n : Int) - (p : Int)) := Lib.hid (by omega)
  clear h hn
  go_enter Tryd.func52, Tryd.ntmps52
  go_wp2_with fail
  go_region_held3 (fun w' => w'.cell? ⟨c, 0, none⟩ = some (.slice da n cap) ∧ w'.cell? ⟨c, 1, none⟩ = some (.int .i64 p)) (go_keep) (fail)
  all_goals
    go_wp2_with fail
    go_ret
    exact ⟨ret_int (by rw [HN.out]; exact IntWalk.i64_in _ (by omega)), (Below.refl _ _).drew⟩

def TakeOut (b c : Nat) (da : Option Addr) (cap : Nat) (bs : List UInt8) (m p : Nat) (en : Bool) (w : World) (e : Ending) (w' : World) : Prop :=
  (∃ x l, takeR m (bs.drop p) = some (x, l) ∧ l = bs.drop (p + m) ∧ ∃ v, e = .returned (.tuple #[v, .int .i64 0]) ∧ w'.ownsRow w.heap.size 5 1 v x.length (Lib.byteCells x) ∧ RdS b c da cap bs (p + m) en w' ∧ Kp b c w w') ∨
  (takeR m (bs.drop p) = none ∧ e = .returned (.tuple #[.slice none 0 0, .int .i64 2]) ∧ RdS b c da cap bs p en w' ∧ Kp b c w w')

theorem takeR_some {m : Nat} {l x r : List UInt8} (h : takeR m l = some (x, r)) : m ≤ l.length ∧ x = l.take m ∧ r = l.drop m ∧ x.length = m := by
  unfold takeR at h
  split at h
  · rename_i ha
    simp only [Option.some.injEq, Prod.mk.injEq] at h
    obtain ⟨rfl, rfl⟩ := h
    exact ⟨ha, rfl, rfl, by rw [List.length_take]; omega⟩
  · cases h
theorem take_some {b c : Nat} {da : Option Addr} {cap : Nat} {bs : List UInt8} {m p : Nat} {x l : List UInt8} {en : Bool} {v : Value} {w w1 w5 : World} (h : RdS b c da cap bs p en w) (hx : takeR m (bs.drop p) = some (x, l)) (h1 : Below w.heap.size w w1) (h5 : RdS b c da cap bs p en w5) (hb5 : Below w1.heap.size w1 w5)
    (ho : w5.ownsRow w1.heap.size 5 1 v x.length (Lib.byteCells x)) :
    TakeOut b c da cap bs m p en w (.returned (.tuple #[v, .int .i64 0])) (w5.setCell ⟨c, 1, none⟩ (.int .i64 ((p : Int) + (m : Int)))) := by
  obtain ⟨k1, k2, k3, k4⟩ := takeR_some hx
  rw [List.length_drop] at k1
  have hle := h.le
  have e : ((p : Int) + (m : Int)) = ((p + m : Nat) : Int) := by omega
  rw [e]
  have hb := h1.trans (hb5.mono h1.size)
  have hk : Kp b c w (w5.setCell ⟨c, 1, none⟩ (.int .i64 ((p + m : Nat) : Int))) := (Kp.of hb (by have := h.cl'; omega) h.lt).setc _ _
  refine Or.inl ⟨x, l, hx, by rw [k3, List.drop_drop], v, rfl, ?_, h5.setAt (p + m) (by omega), hk⟩
  have ho' : w5.ownsRow w.heap.size 5 1 v x.length (Lib.byteCells x) := mown_base h1.size ho
  exact (Kp.setc (Kp.refl w5 (by have := h5.cl'; omega) h.lt) 1 _).own h5 ho' (by decide) (by decide)

set_option maxRecDepth 100000 in
set_option maxHeartbeats 1000000 in
theorem curTake (b c : Nat) (da : Option Addr) (cap : Nat) (bs : List UInt8) (m p : Nat) (en : Bool) (w : World) (h : RdS b c da cap bs p en w) :
    Calls Tryd.prog 92 #[.pointer (some ⟨c, 0, none⟩), .int .i64 m] w (TakeOut b c da cap bs m p en w) := by
  obtain ⟨n, hn⟩ : ∃ n, bs.length = n := ⟨_, rfl⟩
  have hp : p ≤ n := by have := h.le; omega
  have hb : n ≤ 140737488355328 := by have := h.big; omega
  have HL := Lib.hid (curLeft b c da cap bs p en w h)
  have HR := Lib.hid h
  by_cases hm : m ≤ n - p
  · obtain ⟨da', hs, hd⟩ := slice_mid da bs n cap p m hn (by have := h.cl; omega) h.nil (by omega) hb
    have hx : takeR m (bs.drop p) = some ((bs.drop p).take m, (bs.drop p).drop m) := by unfold takeR; rw [if_pos (by rw [List.length_drop, hn]; exact hm)]
    have hxl : ((bs.drop p).take m).length = m := by rw [List.length_take, List.length_drop]; omega
    have HC : Hid (∀ W, Below w.heap.size w W → Calls Tryd.prog 82 #[.slice da' m (cap - p)] W (CloneOut W ((bs.drop p).take m))) := Lib.hid (fun W hW => clone_any da' (cap - p) m _ W (hd W (h.dat.below hW)) hxl (by omega))
    have HX := Lib.hid hx
    have HXL := Lib.hid hxl
    have HN := Lib.hid hn
    have hm' : (m : Int) ≤ ((bs.length - p : Nat) : Int) := by omega
    clear h hx hxl hn hd
    go_enter Tryd.func92, Tryd.ntmps92
    go_wp2_with fail
    refine HL.out.mono ?_
    rintro e w1 ⟨rfl, hb1⟩
    have hr1 := HR.out.below hb1
    have c0 : w1.cell? ⟨c, 0, none⟩ = some (.slice da n cap) := by rw [← HN.out]; exact (Lib.cell_of_heap hr1.hc _).trans rfl
    have c1 : w1.cell? ⟨c, 1, none⟩ = some (.int .i64 p) := (Lib.cell_of_heap hr1.hc _).trans rfl
    have hcw := hr1.cl'
    have HB1 := Lib.hid hb1
    have HR1 := Lib.hid hr1
    clear hb1 hr1 HL
    have hs0 : IntKind.i64.wrap ((p : Int) + (m : Int)) = (p : Int) + (m : Int) := IntWalk.i64_in _ (by omega)
    go_wp2_with fail
    go_region_held3 (fun w' => w'.cell? ⟨c, 0, none⟩ = some (.slice da n cap) ∧ w'.cell? ⟨c, 1, none⟩ = some (.int .i64 p)) (first | go_keep | exact ⟨(hb5.cell (p := ⟨c, 0, none⟩) hcw).trans c0, (hb5.cell (p := ⟨c, 1, none⟩) hcw).trans c1⟩) (first | (go_at_call 82; refine (HC.out _ HB1.out.drew).mono ?_; rintro e w5 ⟨v5, rfl, hown5, hb5d⟩; have hb5 : Below w1.heap.size w1 w5 := Below.trans (Below.drew (Below.refl _ _)) hb5d))
    all_goals
      have hr5 := HR1.out.below hb5
      have HO5 := Lib.hid hown5
      have HR5 := Lib.hid hr5
      have HB5 := Lib.hid hb5
      have c05 : w5.cell? ⟨c, 0, none⟩ = some (.slice da n cap) := by rw [← HN.out]; exact (Lib.cell_of_heap hr5.hc _).trans rfl
      have c15 : w5.cell? ⟨c, 1, none⟩ = some (.int .i64 p) := (Lib.cell_of_heap hr5.hc _).trans rfl
      have cf5 := Lib.frozen_of_heap hr5.hc 1
      clear hb5 hr5 hown5 hb5d c0 c1 hs hs0
      go_wp2_with fail
      go_ret2
      exact take_some HR.out HX.out HB1.out HR5.out HB5.out HO5.out
  · have hx : takeR m (bs.drop p) = none := by unfold takeR; rw [if_neg (by rw [List.length_drop, hn]; exact hm)]
    have HX := Lib.hid hx
    have hm' : ((bs.length - p : Nat) : Int) < (m : Int) := by omega
    clear h hx hn
    go_enter Tryd.func92, Tryd.ntmps92
    go_wp2_with fail
    refine HL.out.mono ?_
    rintro e w1 ⟨rfl, hb1⟩
    go_wp2_with fail
    go_ret2
    exact Or.inr ⟨HX.out, rfl, HR.out.below hb1, Kp.of hb1 (by have := HR.out.cl'; omega) HR.out.lt⟩
end Go.Proofs.YtaijdpckkobofaaDoor
