/- lex: name. -/
import Derived.Test.YtaijdpckkobofaaDoorLexLib
namespace Go.Proofs.YtaijdpckkobofaaDoor
open Go.RowKit
set_option linter.unusedVariables false

def Out (B b : Nat) (s : ByteArray) (l : List Tok) (w : World) (r : Res) (e : Ending) (w' : World) : Prop :=
  Ws B b w w' ∧ match r with
  | .inl a => e = .returned (faultV 9 a)
  | .inr (t, j) => e = .returned (faultV 0 0) ∧ IsScan B b s j (l ++ [t]) w'

/-- a fresh cell for a Fault beside the scanner -/
theorem IsScan.fault {B b : Nat} {s : ByteArray} {i : Nat} {l : List Tok} {w : World} (h : IsScan B b s i l w) (hBw : B ≤ w.heap.size) :
    ∃ wa r, w.alloc (.cells #[.int .i64 0, .int .i64 0] 71) = wa ∧ w.heap.size = r ∧ IsScan B b s i l wa ∧ wa.heap[r]? = some (.cells #[.int .i64 0, .int .i64 0] 71 (0, 0)) ∧ Ws B b w wa ∧ B ≤ r ∧ r ≠ b ∧ r < wa.heap.size :=
  ⟨_, _, rfl, rfl, h.old ((Below.refl _ _).alloc (Nat.le_refl _) _), heap_new _ _, (Ws.refl _ _ _).alloc hBw _, hBw, by have := h.lt; omega, by rw [World.size_alloc]; omega⟩

/-- a store into another block: the scanner stays -/
theorem IsScan.other {B b : Nat} {s : ByteArray} {i : Nat} {l : List Tok} {w : World} (h : IsScan B b s i l w) {r : Nat} {c : Array Value} {t : TypeId} {fz : Nat × Nat} (hr : w.heap[r]? = some (.cells c t fz)) (ht : t ≠ 75) (hb : r ≠ b) (o : Nat) (v : Value) : IsScan B b s i l (w.setCell ⟨r, o, none⟩ v) := by
  obtain ⟨hB, v0, hbk, ho, hn⟩ := h
  refine ⟨hB, v0, ?_, ?_, hn⟩
  · rw [Below.heap_setCell _ _ _ _ (fun e => hb e.symm)]; exact hbk
  · refine ho.kept (row := some r) ⟨rfl, rfl, rfl, by simp [World.setCell], fun k _ hk => Below.heap_setCell _ _ _ _ (fun e => hk (by simp [e]))⟩ ?_
    right
    intro he
    obtain ⟨c', fz', hk⟩ := Lib.ownsRow_kind ho r he
    rw [hr] at hk
    injection hk with hk
    injection hk with _ hk _
    exact ht hk
theorem Ws.new {B b : Nat} {w w1 : World} (h : Ws B b w w1) {r : Nat} (hr : w.heap.size ≤ r) (hB : B ≤ r) (o : Nat) (v : Value) : Ws B b w (w1.setCell ⟨r, o, none⟩ v) := by
  refine ⟨h.below.setCell (p := ⟨r, o, none⟩) hB v, ?_⟩
  intro k ob hk h1 h2
  have hlt : k < w.heap.size := by
    rcases Nat.lt_or_ge k w.heap.size with h' | h'
    · exact h'
    · rw [Array.getElem?_eq_none h'] at hk; cases hk
  rw [Below.heap_setCell _ _ _ _ (by show k ≠ r; omega)]
  exact h.others k ob hk h1 h2

theorem set_kind {w : World} {r : Nat} {c : Array Value} {t : TypeId} {fz : Nat × Nat} (hr : w.heap[r]? = some (.cells c t fz)) (o : Nat) (v : Value) : ∃ c', (w.setCell ⟨r, o, none⟩ v).heap[r]? = some (.cells c' t fz) := by
  refine ⟨c.setIfInBounds o v, ?_⟩
  simp [World.setCell, Array.getElem?_modify, hr]

/-- the result's cell is written last -/
theorem Out.ok {B b : Nat} {s : ByteArray} {l : List Tok} {w w1 : World} {t : Tok} {j r : Nat} {c : Array Value} {fz : Nat × Nat} {x y : Value} (hI : IsScan B b s j (l ++ [t]) w1) (hW : Ws B b w w1) (hr : w1.heap[r]? = some (.cells c 71 fz)) (hrb : r ≠ b) (hwr : w.heap.size ≤ r) (hB : B ≤ r) :
    Out B b s l w (.inr (t, j)) (.returned (faultV 0 0)) ((w1.setCell ⟨r, 0, none⟩ x).setCell ⟨r, 1, none⟩ y) := by
  obtain ⟨c', hc'⟩ := set_kind hr 0 x
  exact ⟨(hW.new hwr hB _ _).new hwr hB _ _, rfl, (hI.other hr (by decide) hrb _ _).other hc' (by decide) hrb _ _⟩
theorem Out.bad {B b : Nat} {s : ByteArray} {l : List Tok} {w w1 : World} {a r : Nat} {x y : Value} (hW : Ws B b w w1) (hwr : w.heap.size ≤ r) (hB : B ≤ r) :
    Out B b s l w (.inl a) (.returned (faultV 9 a)) ((w1.setCell ⟨r, 0, none⟩ x).setCell ⟨r, 1, none⟩ y) :=
  ⟨(hW.new hwr hB _ _).new hwr hB _ _, rfl⟩

/-- put, at numbers however they are spelled -/
theorem put_at (B b : Nat) (s : ByteArray) (i : Nat) (l : List Tok) (kind num j : Nat) (kI nI jI : Int) (text : ByteArray) (w : World) (h : IsScan B b s i l w) (hl : l.length ≤ 8000) (hBw : B ≤ w.heap.size) (hk : (kind : Int) = kI) (hn : (num : Int) = nI) (hj : (j : Int) = jI) :
    Calls Tryd.prog 69 #[.pointer (some ⟨b, 0, none⟩), .int .i64 kI, .string text, .int .i64 nI, .int .i64 jI] w fun e w' => e = .returned (.tuple #[]) ∧ IsScan B b s j (l ++ [⟨kind, text, num, i⟩]) w' ∧ Ws B b w w' := by
  subst hk hn hj
  exact put_any B b s i l kind num j text w h (by omega) hBw

theorem wrap_list (t : ByteArray) : ((⟨#[32]⟩ : ByteArray) ++ t ++ ⟨#[32]⟩).data.toList = 32 :: (t.data.toList ++ [32]) := by
  simp

set_option maxRecDepth 100000 in
set_option maxHeartbeats 1000000 in
theorem name_any (B b : Nat) (s : ByteArray) (i : Nat) (l : List Tok) (w : World) (h : IsScan B b s i l w) (hi : i ≤ s.size) (hs : s.size ≤ 8000) (hl : l.length ≤ 8000) (hBw : B ≤ w.heap.size) (hg : LexAt B w) :
    Calls Tryd.prog 111 #[.pointer (some ⟨b, 0, none⟩)] w (Out B b s l w (nameAt s i)) := by
  obtain ⟨wa, r, hwa, hr, hIa, hra, hWa, hBr, hrb, hrl⟩ := h.fault hBw
  have c0' := hIa.c0
  have c1' := hIa.c1
  have hBa : B ≤ wa.heap.size := by omega
  have hbl := hIa.lt
  have HIa := Lib.hid hIa
  have Hra := Lib.hid hra
  have Hg := Lib.hid (hg.below hWa.below)
  have hj1 := runOf_ge isName s i
  have hj2 := runOf_le isName s i hi
  have HNA : Hid (nameAt s i = if 16 < (s.extract i (runOf isName s i)).size then .inl i else .inr (⟨if isWord (s.extract i (runOf isName s i)) = true then 2 else 1, s.extract i (runOf isName s i), 0, i⟩, runOf isName s i)) := Lib.hid rfl
  have HW : Hid (∀ W, W.cell? ⟨b, 0, none⟩ = some (.string s) → Calls Tryd.prog 108 #[.pointer (some ⟨b, 0, none⟩), .int .i64 i, .func (.func 130) #[] #[]] W fun e w' => e = .returned (.int .i64 (runOf isName s i)) ∧ w' = W) := Lib.hid fun W hW => while_isName b s i W hW hi (by omega)
  generalize nameAt s i = res at HNA ⊢
  generalize runOf isName s i = j at *
  have hext : (s.extract i j).size = j - i := extract_size hj2
  obtain ⟨t, ht⟩ : ∃ t, s.extract i j = t := ⟨_, rfl⟩
  rw [ht] at HNA hext
  have hj0 : (0 : Int) ≤ (j : Int) := by omega
  have hi0 : (0 : Int) ≤ (i : Int) := by omega
  have hij : (i : Int) ≤ (j : Int) := by omega
  have hjs : (j : Int) ≤ (s.size : Int) := by omega
  have hts : t.size ≤ 8000 := by omega
  have hwr : w.heap.size ≤ r := by omega
  clear h hIa hra hg hext
  go_enter Tryd.func111, Tryd.ntmps111
  go_wp2_with fail
  clear hwa hr
  go_wp2_with (go_at_call 108; refine (HW.out _ c0').mono ?_; rintro e w1 ⟨rfl, rfl⟩)
  go_quiet (fail)
  have hwd : LexW (w1.drewN nq) := (Hg.out.below (below_drewN (Below.refl _ _) nq)).w
  have HWd := Lib.hid hwd
  clear hwd
  by_cases hlen : 16 < t.size
  · go_wp2_with fail
    refine (wrong_any _ _).mono ?_
    rintro e w2 ⟨rfl, hb2⟩
    have hr2 : w2.heap[r]? = some (.cells #[.int .i64 0, .int .i64 0] 71 (0, 0)) := by rw [hb2.block r hrl]; exact Hra.out
    have d0 : w2.cell? ⟨r, 0, none⟩ = some (.int .i64 0) := by rw [Lib.cell_of_heap hr2]; rfl
    have d1 : w2.cell? ⟨r, 1, none⟩ = some (.int .i64 0) := by rw [Lib.cell_of_heap hr2]; rfl
    have f0 := Lib.frozen_of_heap hr2 0
    have f1 := Lib.frozen_of_heap hr2 1
    have HW2 := Lib.hid ((hWa.drewN nq).old hBa hb2)
    clear hr2 hb2
    go_wp2_with fail

    refine bodyPost_ret (v := faultV 9 i) ?_ rfl ?_
    · simp [faultV, results, Tryd.results111, go_sem, d0, d1]
    rw [HNA.out, if_pos hlen]
    exact Out.bad HW2.out hwr hBr
  · obtain ⟨k, hk⟩ : ∃ k, isWord t = k := ⟨_, rfl⟩
    rw [if_neg hlen, hk] at HNA
    have HC : Hid (∀ (W : World) (a c : ByteArray), LexW W → a.data.toList = wordsText → c.data.toList = 32 :: (t.data.toList ++ [32]) → Calls Tryd.prog 131 #[.string a, .string c] W fun e w' => e = .returned (.bool k) ∧ W = w') := Lib.hid fun W a c hW ha hc => (contains_any a c W hW (by rw [Lib.size_eq, ha]; decide)).mono fun e w' ⟨he, hw⟩ => ⟨by rw [he, ha, hc, ← hk]; rfl, hw⟩
    clear hk
    cases k
    all_goals
      go_wp2_with fail
      refine (HC.out _ _ _ HWd.out rfl (wrap_list t)).mono ?_
      rintro e w2 ⟨rfl, rfl⟩
      go_wp2_with fail
      refine (put_at B b s i l _ 0 j _ _ _ _ _ (HIa.out.drewN nq) hl hBa (by first | exact (rfl : ((1 : Nat) : Int) = 1) | exact (rfl : ((2 : Nat) : Int) = 2)) rfl rfl).mono ?_
      rintro e w3 ⟨rfl, hI3, hW3⟩
      have hr3 := hW3.keep Hra.out hrb (by decide)
      have d0 : w3.cell? ⟨r, 0, none⟩ = some (.int .i64 0) := by rw [Lib.cell_of_heap hr3]; rfl
      have d1 : w3.cell? ⟨r, 1, none⟩ = some (.int .i64 0) := by rw [Lib.cell_of_heap hr3]; rfl
      have f0 := Lib.frozen_of_heap hr3 0
      have f1 := Lib.frozen_of_heap hr3 1
      have HI3 := Lib.hid hI3
      have HW3 := Lib.hid ((hWa.drewN nq).trans hW3)
      have HR3 := Lib.hid hr3
      clear hI3 hW3 hr3
      go_wp2_with fail
      refine bodyPost_ret (v := faultV 0 0) ?_ rfl ?_
      · simp [faultV, results, Tryd.results111, go_sem, d0, d1]
      rw [HNA.out]
      exact Out.ok HI3.out HW3.out HR3.out hrb hwr hBr
end Go.Proofs.YtaijdpckkobofaaDoor
