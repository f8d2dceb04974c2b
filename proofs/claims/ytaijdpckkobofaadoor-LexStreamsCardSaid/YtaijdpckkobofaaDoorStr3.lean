/- lex.Stream: Is. -/
import Derived.Test.YtaijdpckkobofaaDoorStr2
import Derived.Test.YtaijdpckkobofaaDoorShelf
namespace Go.Proofs.YtaijdpckkobofaaDoor
open Go.RowKit
set_option linter.unusedVariables false

/-- what Peek gives -/
def Peeks (b : Nat) (kd : Nat) (tx : ByteArray) (nm pl : Nat) (w : World) : Prop :=
  ∀ W, Below w.heap.size w W → Calls Tryd.prog 31 #[.pointer (some ⟨b, 0, none⟩)] W fun e w' => e = .returned (.agg #[.int .i64 kd, .string tx, .int .i64 nm, .int .i64 pl]) ∧ Below W.heap.size W w'
theorem Peeks.of {b g o n c : Nat} {t : Tok} {w : World} (hb : StrAt b g o n c w) (hn : 0 < n) (hnc : n ≤ c) (ht : TkAt w g o t) (hg : g < w.heap.size) : Peeks b t.kind t.text t.num t.at_ w :=
  fun W hW => peek_at b g o n c t W ((hW.block b hb.lt).trans hb) hn hnc (ht.below hW hg) (by have := hW.size; omega)
theorem Peeks.below {b kd nm pl : Nat} {tx : ByteArray} {w w' : World} (h : Peeks b kd tx nm pl w) (k : Below w.heap.size w w') : Peeks b kd tx nm pl w' :=
  fun W hW => h W (k.trans (hW.mono k.size))

def isWM (kd : Nat) : Bool := decide (kd = 2 ∨ kd = 5)

set_option maxRecDepth 100000 in
set_option maxHeartbeats 1000000 in
theorem is_at (b : Nat) (sl : Value) (kd nm pl : Nat) (tx : ByteArray) (kb : Bool) (w : World) (hp : Peeks b kd tx nm pl w)
    (hc : ∀ W, Below w.heap.size w W → Calls Tryd.prog 72 #[sl, .string tx] W fun e w' => e = .returned (.bool kb) ∧ Below W.heap.size W w') :
    Calls Tryd.prog 33 #[.pointer (some ⟨b, 0, none⟩), sl] w fun e w' => e = .returned (.bool (isWM kd && kb)) ∧ Below w.heap.size w w' := by
  have HP := Lib.hid (hp w (Below.refl _ _))
  have HC := Lib.hid hc
  clear hp hc
  go_enter Tryd.func33, Tryd.ntmps33
  go_wp2_with fail
  refine HP.out.mono ?_
  rintro e w2 ⟨rfl, hb2⟩
  obtain ⟨w3, p, hw3, hp⟩ : ∃ w3 p, w2.alloc (.cells #[.int .i64 kd, .string tx, .int .i64 nm, .int .i64 pl] 75) = w3 ∧ w2.heap.size = p := ⟨_, _, rfl, rfl⟩
  have hb3 : Below w2.heap.size w2 w3 := by rw [← hw3]; exact (Below.refl _ _).alloc (Nat.le_refl _) _
  have hp3 : w3.heap[p]? = some (.cells #[.int .i64 kd, .string tx, .int .i64 nm, .int .i64 pl] 75 (0, 0)) := by rw [← hw3, ← hp]; exact heap_new _ _
  have p0 : w3.cell? ⟨p, 0, none⟩ = some (.int .i64 kd) := (Lib.cell_of_heap hp3 _).trans rfl
  have p1 : w3.cell? ⟨p, 1, none⟩ = some (.string tx) := (Lib.cell_of_heap hp3 _).trans rfl
  have HB3 := Lib.hid (hb2.trans (hb3.mono hb2.size))
  clear hb2 hb3 hp3
  go_upto_region 2 with fail
  clear hw3 hp
  by_cases h2 : kd = 2
  · subst h2
    go_wp2_with fail
    refine (HC.out _ HB3.out).mono ?_
    rintro e w4 ⟨rfl, hb4⟩
    have HB4 := Lib.hid (HB3.out.trans (hb4.mono HB3.out.size))
    clear hb4
    go_wp2_with fail
    go_ret
    exact ⟨ret_bool (by simp [isWM]), HB4.out⟩
  · have e2 : ((kd : Int) == 2) = false := by rw [beq_eq_false_iff_ne]; omega
    by_cases h5 : kd = 5
    · subst h5
      clear h2
      go_wp2_with fail
      refine (HC.out _ HB3.out).mono ?_
      rintro e w4 ⟨rfl, hb4⟩
      have HB4 := Lib.hid (HB3.out.trans (hb4.mono HB3.out.size))
      clear hb4
      go_wp2_with fail
      go_ret
      exact ⟨ret_bool (by simp [isWM]), HB4.out⟩
    · have e5 : ((kd : Int) == 5) = false := by rw [beq_eq_false_iff_ne]; omega
      have hw : isWM kd = false := by simp [isWM]; omega
      have Hw := Lib.hid hw
      clear h2 h5 hw
      go_wp2_with fail
      go_ret
      exact ⟨ret_bool (by rw [Hw.out]; rfl), HB3.out⟩
end Go.Proofs.YtaijdpckkobofaaDoor
