/- A reader with a flag: take; a new cursor. -/
import Derived.Test.YtaijdpckkobofaaDoorDec2
namespace Go.Proofs.YtaijdpckkobofaaDoor
open Go.RowKit
set_option linter.unusedVariables false

def RTakeOut (b c : Nat) (da : Option Addr) (cap : Nat) (bs : List UInt8) (m p : Nat) (en : Bool) (w : World) (e : Ending) (w' : World) : Prop :=
  ∃ (v : Value) (x : List UInt8) (q : Nat) (en' : Bool), e = .returned v ∧ w'.ownsRow w.heap.size 5 1 v x.length (Lib.byteCells x) ∧ RdS b c da cap bs q en' w' ∧ Kp b c w w' ∧ Step en (takeR m (bs.drop p)) en' x (bs.drop q)

set_option maxRecDepth 100000 in
set_option maxHeartbeats 1000000 in
theorem rtake (b c : Nat) (da : Option Addr) (cap : Nat) (bs : List UInt8) (m p : Nat) (en : Bool) (w : World) (h : RdS b c da cap bs p en w) :
    Calls Tryd.prog 46 #[.pointer (some ⟨b, 0, none⟩), .int .i64 m] w (RTakeOut b c da cap bs m p en w) := by
  have HC := Lib.hid (curTake b c da cap bs m p en w h)
  have b0 : w.cell? ⟨b, 0, none⟩ = some (.pointer (some ⟨c, 0, none⟩)) := (Lib.cell_of_heap h.hb _).trans rfl
  have hlt := h.lt
  clear h
  go_enter Tryd.func46, Tryd.ntmps46
  go_wp2_with fail
  refine HC.out.mono ?_
  intro e w1 hT
  clear HC
  rcases hT with ⟨x, l, hx, hl, v, rfl, ho, hr, hk⟩ | ⟨hx, rfl, hr, hk⟩
  · have HX := Lib.hid hx
    have HL := Lib.hid hl
    have HO := Lib.hid ho
    have HR := Lib.hid hr
    have HK := Lib.hid hk
    clear hx hl ho hr hk
    go_wp2_with fail
    go_ret
    refine ⟨v, x, p + m, en, rfl, HO.out, HR.out, HK.out, ?_⟩
    cases en
    · exact Or.inl ⟨rfl, rfl, by rw [HX.out, HL.out]⟩
    · exact Step.of_end
  · have HX := Lib.hid hx
    have HR := Lib.hid hr
    have HK := Lib.hid hk
    have c0 : w1.cell? ⟨b, 0, none⟩ = some (.pointer (some ⟨c, 0, none⟩)) := (Lib.cell_of_heap hr.hb _).trans rfl
    have c1 : w1.cell? ⟨b, 1, none⟩ = some (.bool en) := (Lib.cell_of_heap hr.hb _).trans rfl
    have cf := Lib.frozen_of_heap hr.hb 1
    clear hx hr hk
    go_wp2_with fail
    go_ret
    exact ⟨_, [], p, true, rfl, World.ownsRow_nil _ _ _ _, HR.out.setEnd, HK.out.setb _ _, Step.of_none HX.out⟩

def NewCurOut (bs : List UInt8) (w : World) (e : Ending) (w' : World) : Prop :=
  ∃ (c : Nat) (da : Option Addr) (cap : Nat), e = .returned (.pointer (some ⟨c, 0, none⟩)) ∧ w.heap.size ≤ c ∧ w'.heap[c]? = some (.cells #[.slice da bs.length cap, .int .i64 0] 157 (0, 0)) ∧ BsA w' da bs ∧ bs.length ≤ cap ∧ (da = none → cap = 0) ∧ (∀ ad, da = some ad → ad.block < c) ∧ Below w.heap.size w w'

set_option maxRecDepth 100000 in
theorem newCursor (a : Option Addr) (cp n : Nat) (bs : List UInt8) (w : World) (h : BsA w a bs) (hn : bs.length = n) (hl : n ≤ 140737488355328) :
    Calls Tryd.prog 45 #[.slice a n cp] w (NewCurOut bs w) := by
  subst hn
  have HC := Lib.hid (clone_any a cp bs.length bs w h rfl hl)
  clear h
  go_enter Tryd.func45, Tryd.ntmps45
  go_wp2_with fail
  refine HC.out.mono ?_
  rintro e w1 ⟨v, rfl, ho, hb⟩
  have HO := Lib.hid ho
  have HB := Lib.hid hb
  clear HC
  obtain ⟨da, cap, rfl, hA, hlc, hnil, hbl⟩ := BsA.own ho
  clear ho hb
  go_wp2_with fail
  go_ret
  exact ⟨w1.heap.size, da, cap, rfl, HB.out.size, heap_new _ _, hA.below ((Below.refl _ _).alloc (Nat.le_refl _) _), hlc, hnil, fun ad e => (hbl ad e).2, HB.out.alloc HB.out.size _⟩

/-- behind an append to a row of the call's own -/
theorem RdS.app {b c : Nat} {da : Option Addr} {cap : Nat} {bs : List UInt8} {p q : Nat} {en en0 : Bool} {w wo w9 : World} {B : Nat} {e : TypeId} {size : Nat} {v : Value} {n : Nat} {xs : List Value} {o : Obj}
    (h0 : RdS b c da cap bs p en0 w) (hr : RdS b c da cap bs q en wo) (hk : Kp b c w wo) (hown : wo.ownsRow B e size v n xs) (hB : w.heap.size ≤ B) (h1 : e ≠ 103) (h2 : e ≠ 157) (hg : (wo.alloc o).grownBy w9 v.ownBlock) :
    RdS b c da cap bs q en w9 ∧ Kp b c w w9 := by
  have hc0 := h0.cl'
  have hb0 := h0.bl
  have hsz := hk.below.size
  have hrow : ∀ k, v.ownBlock = some k → w.heap.size ≤ k := fun k e => Nat.le_trans hB (hown.lt k e).1
  have hal : ∀ k, k < wo.heap.size → (wo.alloc o).heap[k]? = wo.heap[k]? := fun k hk' => ((Below.refl wo.heap.size wo).alloc (Nat.le_refl _) o).block k hk'
  have hbl : ∀ k, k < wo.heap.size → some k ≠ v.ownBlock → w9.heap[k]? = wo.heap[k]? := fun k hk' hne => (hg.block k (by rw [World.size_alloc]; omega) hne).trans (hal k hk')
  have hne : ∀ k, k < w.heap.size → some k ≠ v.ownBlock := fun k hk' e => by have := hrow k e.symm; omega
  have hs9 : wo.heap.size ≤ w9.heap.size := by have := hg.size; rw [World.size_alloc] at this; omega
  have hbel : Below c w w9 := (hk.below.alloc (by omega) o).grown hg (by rw [World.size_alloc]; omega) (fun k e => by have := hrow k e; omega)
  refine ⟨⟨(hbl b hr.bl (hne b hb0)).trans hr.hb, (hbl c hr.cl' (hne c hc0)).trans hr.hc, hr.le, ?_, hr.cl, hr.big, hr.dl, hr.nil, hr.lt⟩, ⟨hbel, hk.lt, fun k hk' hb' hc' => (hbl k (by omega) (hne k hk')).trans (hk.oth k hk' hb' hc')⟩⟩
  exact hr.dat.blocks (fun ad e => hbl _ (by have := hr.dl ad e; have := hr.cl'; omega) (hne _ (by have := hr.dl ad e; omega))) hs9
theorem RdS.kpOf {b c : Nat} {da : Option Addr} {cap : Nat} {bs : List UInt8} {p : Nat} {en : Bool} {w w' : World} (h : RdS b c da cap bs p en w) (hb : Below w.heap.size w w') : Kp b c w w' := Kp.of hb (by have := h.cl'; omega) h.lt
end Go.Proofs.YtaijdpckkobofaaDoor
