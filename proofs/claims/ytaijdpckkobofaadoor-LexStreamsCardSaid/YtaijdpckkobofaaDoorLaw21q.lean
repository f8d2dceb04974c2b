/- LexQuotes, walked. -/
import Derived.Test.YtaijdpckkobofaaDoorLex13
import Derived.Test.YtaijdpckkobofaaDoorLaw21b
import Derived.Laws.AppendOwnNone
namespace Go.Proofs.YtaijdpckkobofaaDoor
open Go.RowKit
set_option linter.unusedVariables false

theorem own_base {w : World} {B B' : Nat} {e : TypeId} {size : Nat} {v : Value} {n : Nat} {xs : List Value} (hB : B' ≤ B) (h : w.ownsRow B e size v n xs) : w.ownsRow B' e size v n xs := by
  obtain ⟨h1, h2⟩ := h
  refine ⟨h1, ?_⟩
  rcases h2 with h2 | ⟨g, cap, cur, hv, hg, r⟩
  · exact .inl h2
  · exact .inr ⟨g, cap, cur, hv, Nat.le_trans hB hg, r⟩

theorem ByA.nil_len {w : World} {l : List UInt8} (h : ByA w none l) : l = [] := by
  cases l with
  | nil => rfl
  | cons x l => obtain ⟨g, o, ha, _⟩ := h 0 x rfl; cases ha
theorem ByA.take {w : World} {a : Option Addr} {l : List UInt8} (h : ByA w a l) (n : Nat) : ByA w a (l.take n) := by
  intro k x hx
  rw [List.getElem?_take] at hx
  split at hx
  · exact h k x hx
  · cases hx
theorem ByA.new (w : World) (l : List UInt8) (vs : Array Value) (h : vs = (Lib.byteCells l).toArray) : ByA (w.alloc (.cells vs 5)) (some ⟨w.heap.size, 0, none⟩) l := by
  subst h
  intro k x hx
  refine ⟨_, _, rfl, by rw [World.size_alloc]; omega, ?_⟩
  rw [Lib.cell_of_heap (heap_new _ _), List.getElem?_toArray, Nat.zero_add]
  exact byteCells_get hx

theorem lit_none (w : World) (B : Nat) (hB : B ≤ w.heap.size) : (w.alloc (.cells #[] 5)).ownsRow B 5 1 (.slice (some ⟨w.heap.size, 0, none⟩) 0 0) 0 [] :=
  own_new w B 0 [] rfl hB (by decide)

def CopyOut (w : World) (l : List UInt8) (e : Ending) (w' : World) : Prop := ∃ v, e = .returned v ∧ w'.ownsRow w.heap.size 5 1 v l.length (Lib.byteCells l) ∧ Below w.heap.size w w'

set_option maxRecDepth 100000 in
theorem copy_at (a : Option Addr) (c n : Nat) (l : List UInt8) (w : World) (h : ByA w a l) (hn : l.length = n) (hc : a = none → c = 0) (hl : n ≤ 140737488355328) :
    Calls Tryd.prog 15 #[.slice a n c] w (CopyOut w l) := by
  subst hn
  obtain ⟨i0, hi, hz0, hz1, hz2⟩ := info_parts info_u8
  have hlit := lit_none w w.heap.size (Nat.le_refl _)
  have hb0 : Below w.heap.size w (w.alloc (.cells #[] 5)) := (Below.refl _ _).alloc (Nat.le_refl _) _
  cases a with
  | none =>
    obtain rfl := h.nil_len
    obtain rfl := hc rfl
    go_enter Tryd.func15, Tryd.ntmps15
    go_wp2_with (first | (at_builtin; refine wpList_append_own_none rfl (.tmp 3) (.tmp 4) 35 rfl w.heap.size 5 i0 1 Tryd.underlying35 hi _ 0 _ rfl hlit rfl ?_))
    go_ret
    exact ⟨_, rfl, hlit, hb0⟩
  | some ad =>
    have hA := h.below hb0
    have hcells : ∀ j u, (Lib.byteCells l)[j]? = some u → (w.alloc (.cells #[] 5)).cell? (ad.add j) = some u := by
      intro j u hu
      obtain ⟨x, hx, rfl⟩ : ∃ x, l[j]? = some x ∧ Value.int .u8 (x.toNat : Int) = u := by simpa [Lib.byteCells] using hu
      obtain ⟨g, o, e, _, hcc⟩ := hA j x hx
      cases e
      rw [add_plain]
      exact hcc
    clear h hA
    go_enter Tryd.func15, Tryd.ntmps15
    go_wp2_with (first | (at_builtin; refine wpList_append_own _ rfl (.tmp 3) (.tmp 4) 35 rfl w.heap.size 5 i0 (.int .u8 0) 1 1 Tryd.underlying35 hi hz0 hz1 hz2 rfl (by decide) _ 0 [] rfl hlit ad l.length c (Lib.byteCells l) rfl (by simp [Lib.byteCells]) hcells (bytesOk.cells l).one (by unfold maxLen; omega) (by omega) (by rw [World.size_alloc]; omega) ?_; intro v' w9 hown9 hgrow _; have hbel9 := below_grow hb0 (by rw [World.size_alloc]; omega) hlit hgrow))
    go_ret
    exact ⟨_, rfl, own_cast hown9 (by omega) (by simp), hbel9⟩

theorem quote_n (a : Option Addr) (c n : Nat) (l : List UInt8) (q : ByteArray) (w : World) (h : ByA w a l) (hn : l.length = n) (hl : n ≤ 1000000000) (ht : w.cell? ⟨6, 15, none⟩ = some (.int .u8 4)) (hq : (⟨(quoteOf l).toArray⟩ : ByteArray) = q) :
    Calls Tryd.prog 29 #[.slice a n c] w fun e w' => e = .returned (.string q) ∧ Below w.heap.size w w' := by
  subst hn hq
  exact quote_at a c l w h hl ht
theorem rquote_n (a : Option Addr) (c n : Nat) (l : List UInt8) (q : ByteArray) (w : World) (h : ByA w a l) (hn : l.length = n) (hc : n ≤ c) (hl : n ≤ 100000) (hq : (⟨(quoteOf l).toArray⟩ : ByteArray) = q) :
    Calls Tryd.prog 30 #[.slice a n c] w fun e w' => e = .returned (.string q) ∧ Below w.heap.size w w' := by
  subst hn hq
  exact rquote_at a c l w h hc hl

theorem conv_at (a : Option Addr) (c n : Nat) (l : List UInt8) (s : ByteArray) (W : World) (h : ByA W a l) (hn : l.length = n) (hs : (⟨l.toArray⟩ : ByteArray) = s) :
    (convert 35 9 (.slice a n c)).run Tryd.prog W = .ok (.string s) W := by
  subst hn hs
  cases a with
  | none =>
    obtain rfl := h.nil_len
    exact run_convert_bytes_nil (P := Tryd.prog) W 35 5 Tryd.underlying35 Tryd.underlying5 0 c 9 Tryd.underlying9
  | some ad =>
    refine run_convert_bytes_back (P := Tryd.prog) W 35 9 5 ad c l Tryd.underlying35 Tryd.underlying5 Tryd.underlying9 ?_
    intro j hj
    obtain ⟨g, o, e, _, hcc⟩ := h j l[j] (List.getElem?_eq_getElem hj)
    cases e
    rw [add_plain]
    exact hcc
end Go.Proofs.YtaijdpckkobofaaDoor
