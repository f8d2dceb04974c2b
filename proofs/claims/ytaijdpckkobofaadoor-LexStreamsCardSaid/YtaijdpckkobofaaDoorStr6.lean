/- lex.Stream: what a call leaves, told by the token's number. -/
import Derived.Test.YtaijdpckkobofaaDoorStr5
import Derived.Test.YtaijdpckkobofaaDoorLaw21q
namespace Go.Proofs.YtaijdpckkobofaaDoor
open Go.RowKit
set_option linter.unusedVariables false

def mvOf (kd : Nat) : Nat := if kd = 6 then 0 else 1
theorem mv_end : mvOf 6 = 0 := rfl
theorem mv_go {kd : Nat} (h : kd ≠ 6) : mvOf kd = 1 := if_neg h
theorem mv_le (kd : Nat) : mvOf kd ≤ 1 := by unfold mvOf; split <;> omega
theorem StW.refl' (b : Nat) (w : World) (hb : b ≤ w.heap.size) : StW b w w := StW.of (Below.refl _ _) hb
theorem StW.low {b : Nat} {w w' : World} (h : Below w.heap.size w w') (hb : b < w.heap.size) : StW b w w' := StW.of h (by omega)

/-- the stream stands at token i of N -/
def StrI (b g cap N i : Nat) (w : World) : Prop := StrAt b g (i * 4) (N - i) (cap - i) w

def NextI (b g cap N i : Nat) (kd nm pl : Nat) (tx : ByteArray) (w : World) (e : Ending) (w' : World) : Prop :=
  e = .returned (.agg #[.int .i64 kd, .string tx, .int .i64 nm, .int .i64 pl]) ∧ StrI b g cap N (i + mvOf kd) w' ∧ StW b w w'

theorem next_mv (b g cap N i : Nat) (kd nm pl : Nat) (tx : ByteArray) (w : World) (hb : StrI b g cap N i w) (hi : i < N) (hcap : N ≤ cap) (ht : TkAt w g (i * 4) ⟨kd, tx, nm, pl⟩) (hg : g < w.heap.size) (hl : kd ≠ 6 → i + 1 < N) :
    Calls Tryd.prog 32 #[.pointer (some ⟨b, 0, none⟩)] w (NextI b g cap N i kd nm pl tx w) := by
  have hbl := StrAt.lt hb
  by_cases h6 : kd = 6
  · subst h6
    refine (next_stay b tx nm pl w hbl (Peeks.of hb (by omega) (by omega) ht hg)).mono ?_
    rintro e w' ⟨rfl, hbel⟩
    exact ⟨rfl, (StrAt.below hb hbel), StW.low hbel hbl⟩
  · refine (next_go b g (i * 4) (N - i) (cap - i) _ w hb (by have := hl h6; omega) (by omega) ht hg h6).mono ?_
    rintro e w' ⟨rfl, hs, hw⟩
    refine ⟨rfl, ?_, hw⟩
    unfold StrI
    rw [mv_go h6]
    have e1 : (i + 1) * 4 = i * 4 + 4 := by omega
    have e2 : N - (i + 1) = N - i - 1 := by omega
    have e3 : cap - (i + 1) = cap - i - 1 := by omega
    rw [e1, e2, e3]
    exact hs

theorem take_mv (b g cap N i : Nat) (kd nm pl : Nat) (tx x : ByteArray) (w : World) (hb : StrI b g cap N i w) (hi : i < N) (hcap : N ≤ cap) (ht : TkAt w g (i * 4) ⟨kd, tx, nm, pl⟩) (hg : g < w.heap.size) (hl : kd ≠ 6 → i + 1 < N) (hk : isWM kd = true) (hx : tx = x) :
    Calls Tryd.prog 36 #[.pointer (some ⟨b, 0, none⟩), .string x] w fun e w' => e = .returned (faultV 0 0) ∧ StrI b g cap N (i + mvOf kd) w' ∧ StW b w w' := by
  subst hx
  have h6 : kd ≠ 6 := by intro h; subst h; simp [isWM] at hk
  refine (take_yes b g (i * 4) (N - i) (cap - i) ⟨kd, tx, nm, pl⟩ w hb (by have := hl h6; omega) (by omega) ht hg hk).mono ?_
  rintro e w' ⟨rfl, hs, hw⟩
  refine ⟨rfl, ?_, hw⟩
  unfold StrI
  rw [mv_go h6]
  have e1 : (i + 1) * 4 = i * 4 + 4 := by omega
  have e2 : N - (i + 1) = N - i - 1 := by omega
  have e3 : cap - (i + 1) = cap - i - 1 := by omega
  rw [e1, e2, e3]
  exact hs
theorem take_st (b g cap N i : Nat) (kd nm pl : Nat) (tx x : ByteArray) (w : World) (hb : StrI b g cap N i w) (hp : Peeks b kd tx nm pl w) (hno : (isWM kd && decide (tx = x)) = false) :
    Calls Tryd.prog 36 #[.pointer (some ⟨b, 0, none⟩), .string x] w fun e w' => e = .returned (faultV 9 pl) ∧ StrI b g cap N i w' ∧ StW b w w' := by
  refine (take_no b kd nm pl tx x w hp hno).mono ?_
  rintro e w' ⟨rfl, hbel⟩
  exact ⟨rfl, StrAt.below hb hbel, StW.low hbel (StrAt.lt hb)⟩
theorem want_mv (b g cap N i : Nat) (kd nm pl : Nat) (tx : ByteArray) (q : Int) (w : World) (hb : StrI b g cap N i w) (hi : i < N) (hcap : N ≤ cap) (ht : TkAt w g (i * 4) ⟨kd, tx, nm, pl⟩) (hg : g < w.heap.size) (hl : kd ≠ 6 → i + 1 < N) (hq : (kd : Int) = q) :
    Calls Tryd.prog 37 #[.pointer (some ⟨b, 0, none⟩), .int .i64 q] w fun e w' => e = .returned (.tuple #[.agg #[.int .i64 kd, .string tx, .int .i64 nm, .int .i64 pl], faultV 0 0]) ∧ StrI b g cap N (i + mvOf kd) w' ∧ StW b w w' := by
  subst hq
  have hbl := StrAt.lt hb
  by_cases h6 : kd = 6
  · subst h6
    refine (want_end b nm pl tx w hbl (Peeks.of hb (by omega) (by omega) ht hg)).mono ?_
    rintro e w' ⟨rfl, hbel⟩
    exact ⟨rfl, (StrAt.below hb hbel), StW.low hbel hbl⟩
  · refine (want_yes b g (i * 4) (N - i) (cap - i) ⟨kd, tx, nm, pl⟩ w hb (by have := hl h6; omega) (by omega) ht hg h6).mono ?_
    rintro e w' ⟨rfl, hs, hw⟩
    refine ⟨rfl, ?_, hw⟩
    unfold StrI
    rw [mv_go h6]
    have e1 : (i + 1) * 4 = i * 4 + 4 := by omega
    have e2 : N - (i + 1) = N - i - 1 := by omega
    have e3 : cap - (i + 1) = cap - i - 1 := by omega
    rw [e1, e2, e3]
    exact hs
theorem want_st (b g cap N i : Nat) (kd nm pl : Nat) (tx : ByteArray) (q : Int) (w : World) (hb : StrI b g cap N i w) (hp : Peeks b kd tx nm pl w) (hne : (kd : Int) ≠ q) :
    Calls Tryd.prog 37 #[.pointer (some ⟨b, 0, none⟩), .int .i64 q] w fun e w' => e = .returned (.tuple #[.agg #[.int .i64 0, .string ⟨#[]⟩, .int .i64 0, .int .i64 0], faultV 9 pl]) ∧ StrI b g cap N i w' ∧ StW b w w' := by
  refine (want_no b kd nm pl q tx w hp hne).mono ?_
  rintro e w' ⟨rfl, hbel⟩
  exact ⟨rfl, StrAt.below hb hbel, StW.low hbel (StrAt.lt hb)⟩

/-! a list of texts -/
def TextsAt (w : World) (a : Option Addr) (l : List ByteArray) : Prop := ∀ (k : Nat) (x : ByteArray), l[k]? = some x → ∃ g o, a = some ⟨g, o, none⟩ ∧ g < w.heap.size ∧ w.cell? ⟨g, o + k, none⟩ = some (.string x)
theorem TextsAt.below {w w' : World} {a : Option Addr} {l : List ByteArray} (h : TextsAt w a l) (k : Below w.heap.size w w') : TextsAt w' a l := fun i x hx => by
  obtain ⟨g, o, ha, hg, hc⟩ := h i x hx
  exact ⟨g, o, ha, Nat.lt_of_lt_of_le hg k.size, (k.cell (p := ⟨g, _, none⟩) hg).trans hc⟩
theorem TextsAt.nil_len {w : World} {l : List ByteArray} (h : TextsAt w none l) : l = [] := by
  cases l with
  | nil => rfl
  | cons x l => obtain ⟨g, o, e, _⟩ := h 0 x rfl; cases e
def txCells (l : List ByteArray) : List Value := l.map Value.string
theorem TextsAt.cells {w : World} {ad : Addr} {l : List ByteArray} (h : TextsAt w (some ad) l) : ∀ j u, (txCells l)[j]? = some u → w.cell? (ad.add j) = some u := by
  intro j u hu
  obtain ⟨x, hx, rfl⟩ : ∃ x, l[j]? = some x ∧ Value.string x = u := by simpa [txCells] using hu
  obtain ⟨g, o, e, _, hc⟩ := h j x hx
  cases e
  rw [add_plain]
  exact hc
theorem txCells_one (l : List ByteArray) : ∀ u ∈ txCells l, u.oneCell' = true := fun u hu => by
  simp only [txCells, List.mem_map] at hu
  obtain ⟨x, _, rfl⟩ := hu
  rfl
theorem txCells_len (l : List ByteArray) : (txCells l).length = l.length := by simp [txCells]

def memTx (l : List ByteArray) (tx : ByteArray) : Bool := l.any fun x => decide (x = tx)
theorem memTx_iff (l : List ByteArray) (tx : ByteArray) : memTx l tx = true ↔ tx ∈ l := by
  unfold memTx
  rw [List.any_eq_true]
  constructor
  · rintro ⟨x, hx, h⟩
    rw [decide_eq_true_eq] at h
    exact h ▸ hx
  · exact fun h => ⟨tx, h, by simp⟩

/-- is the text one of the list? -/
theorem contains_row {B n : Nat} {v : Value} {l : List ByteArray} (tx : ByteArray) (w : World) (h : w.ownsRow B 9 1 v n (txCells l)) :
    ∀ W, Below w.heap.size w W → Calls Tryd.prog 72 #[v, .string tx] W fun e w' => e = .returned (.bool (memTx l tx)) ∧ Below W.heap.size W w' := by
  have hln : l.length = n := by have := h.1; rw [txCells_len] at this; omega
  subst hln
  intro W hW
  rcases h.2 with ⟨rfl, h0⟩ | ⟨g, cap, cur, rfl, hg, hh, hnc, hcm, hcs, htk⟩
  · obtain rfl := List.eq_nil_of_length_eq_zero h0
    refine (Tryd.slices_Contains_string_empty none 0 tx W).mono ?_
    rintro e w' ⟨rfl, rfl⟩
    exact ⟨ret_bool rfl, Below.refl _ _⟩
  · unfold maxLen at hcm
    refine (Tryd.slices_Contains_string g 0 l.length cap l tx W (Nat.le_refl _) (by omega) ?_).mono ?_
    · intro j hj
      have hgl := (Array.getElem?_eq_some_iff.1 hh).1
      have := h.cells (g := g) rfl j (.string l[j]) (by simp [txCells, hj])
      rw [add_plain] at this
      refine ((hW.cell (p := ⟨g, _, none⟩) hgl).trans this).trans ?_
      rw [List.getD_eq_getElem?_getD, List.getElem?_eq_getElem hj]
      rfl
    · rintro e w' ⟨rfl, rfl⟩
      refine ⟨ret_bool ?_, Below.refl _ _⟩
      rw [Bool.eq_iff_iff, Lib.containsS_iff, memTx_iff, List.take_of_length_le (Nat.le_refl _)]
theorem info_str : (Tryd.prog.info? 9).map (fun i => (i.zero, i.size, i.bytes)) = some (some (.string ⟨#[]⟩), 1, 16) := by kernel_rfl

def anyTx (l : List ByteArray) (tx : ByteArray) (k : Nat) : Bool := memTx (l.take k) tx
theorem anyTx_zero (l : List ByteArray) (tx : ByteArray) : anyTx l tx 0 = false := by simp [anyTx, memTx]
theorem anyTx_succ {l : List ByteArray} {tx x : ByteArray} {k : Nat} (h : l[k]? = some x) : anyTx l tx (k + 1) = (anyTx l tx k || decide (x = tx)) := by
  unfold anyTx memTx
  rw [List.take_add_one, h, List.any_append]
  simp
theorem anyTx_all {l : List ByteArray} {tx : ByteArray} {n : Nat} (h : l.length = n) : anyTx l tx n = memTx l tx := by
  unfold anyTx; rw [List.take_of_length_le (by omega)]
end Go.Proofs.YtaijdpckkobofaaDoor
