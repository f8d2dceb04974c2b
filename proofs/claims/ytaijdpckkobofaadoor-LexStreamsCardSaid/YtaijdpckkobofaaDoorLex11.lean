/- lex: Scan. -/
import Derived.Test.YtaijdpckkobofaaDoorLex10
namespace Go.Proofs.YtaijdpckkobofaaDoor
open Go.RowKit
set_option linter.unusedVariables false

def scanAll (s : ByteArray) : (Nat × Nat) ⊕ List Tok :=
  if 8000 < s.size then .inl (2, 0) else match scanFrom s 0 [] with
    | .inl a => .inl (9, a)
    | .inr l => .inr l
theorem scanAll_big {s : ByteArray} (h : 8000 < s.size) : scanAll s = .inl (2, 0) := by unfold scanAll; rw [if_pos h]
theorem scanAll_bad {s : ByteArray} {a : Nat} (h : s.size ≤ 8000) (hf : scanFrom s 0 [] = .inl a) : scanAll s = .inl (9, a) := by unfold scanAll; rw [if_neg (by omega), hf]
theorem scanAll_ok {s : ByteArray} {l : List Tok} (h : s.size ≤ 8000) (hf : scanFrom s 0 [] = .inr l) : scanAll s = .inr l := by unfold scanAll; rw [if_neg (by omega), hf]

def ScanOut (w : World) (r : (Nat × Nat) ⊕ List Tok) (e : Ending) (w' : World) : Prop :=
  Below w.heap.size w w' ∧ match r with
  | .inl (x, a) => e = .returned (.tuple #[.slice none 0 0, faultV x a])
  | .inr l => ∃ v, e = .returned (.tuple #[v, faultV 0 0]) ∧ w'.ownsRow w.heap.size 75 4 v l.length (toksCells l)

theorem own_other {w : World} {B : Nat} {e : TypeId} {size : Nat} {v : Value} {n : Nat} {xs : List Value} (h : w.ownsRow B e size v n xs) {r : Nat} {c : Array Value} {t : TypeId} {fz : Nat × Nat} (hr : w.heap[r]? = some (.cells c t fz)) (ht : t ≠ e) (o : Nat) (x : Value) : (w.setCell ⟨r, o, none⟩ x).ownsRow B e size v n xs := by
  refine h.kept (row := some r) ⟨rfl, rfl, rfl, by simp [World.setCell], fun k _ hk => Below.heap_setCell _ _ _ _ (fun e => hk (by simp [e]))⟩ ?_
  right
  intro he
  obtain ⟨c', fz', hk⟩ := Lib.ownsRow_kind h r he
  rw [hr] at hk
  injection hk with hk
  injection hk with _ hk _
  exact ht hk

theorem IsScan.own {B b : Nat} {s : ByteArray} {i : Nat} {l : List Tok} {w : World} (h : IsScan B b s i l w) : ∃ v, w.cell? ⟨b, 2, none⟩ = some v ∧ w.ownsRow B 75 4 v l.length (toksCells l) := by
  obtain ⟨_, v, hb, ho, _⟩ := h
  exact ⟨v, by rw [Lib.cell_of_heap hb]; rfl, ho⟩

theorem scan_new (w : World) (s : ByteArray) (B : Nat) (hB : B ≤ w.heap.size) : IsScan B w.heap.size s 0 [] (w.alloc (.cells #[.string s, .int .i64 0, .slice none 0 0] 138)) :=
  ⟨hB, _, heap_new _ _, World.ownsRow_nil _ _ _ _, by simp [Value.ownBlock]⟩

set_option maxRecDepth 100000 in
set_option maxHeartbeats 4000000 in
theorem scan_any (s : ByteArray) (w : World) (hg : LexW w) :
    Calls Tryd.prog 28 #[.string s] w (ScanOut w (scanAll s)) := by
  by_cases hs : 8000 < s.size
  · rw [scanAll_big hs]
    go_enter Tryd.func28, Tryd.ntmps28
    go_wp2_with fail
    refine bodyPost_ret (v := .tuple #[.slice none 0 0, faultV 2 0]) ?_ rfl ?_
    · simp [faultV, results, Tryd.results28, go_sem]
    exact ⟨(Below.refl _ _).alloc (Nat.le_refl _) _, rfl⟩
  · have hs' : s.size ≤ 8000 := by omega
    obtain ⟨B, hB⟩ : ∃ B, w.heap.size = B := ⟨_, rfl⟩
    obtain ⟨w1, hw1⟩ : ∃ w1, w.alloc (.cells #[.int .i64 0, .int .i64 0] 71) = w1 := ⟨_, rfl⟩
    have hb1 : Below B w w1 := by rw [← hw1, ← hB]; exact (Below.refl _ _).alloc (Nat.le_refl _) _
    have hr1 : w1.heap[B]? = some (.cells #[.int .i64 0, .int .i64 0] 71 (0, 0)) := by rw [← hw1, ← hB]; exact heap_new _ _
    obtain ⟨b, hbq⟩ : ∃ b, w1.heap.size = b := ⟨_, rfl⟩
    have hBb : B < b := by rw [← hbq, ← hw1, World.size_alloc]; omega
    obtain ⟨w2, hw2⟩ : ∃ w2, w1.alloc (.cells #[.string s, .int .i64 0, .slice none 0 0] 138) = w2 := ⟨_, rfl⟩
    have hI2 : IsScan B b s 0 [] w2 := by rw [← hw2, ← hbq]; exact scan_new w1 s B (by omega)
    have hb2 : Below b w1 w2 := by rw [← hw2, ← hbq]; exact (Below.refl _ _).alloc (Nat.le_refl _) _
    have hr2 : w2.heap[B]? = some (.cells #[.int .i64 0, .int .i64 0] 71 (0, 0)) := by rw [hb2.block B hBb]; exact hr1
    have hB2 : B ≤ w2.heap.size := by have := hb2.size; omega
    have HI2 := Lib.hid hI2
    have HR2 := Lib.hid hr2
    have HB2 := Lib.hid (hb1.trans (hb2.mono (by omega)))
    have HG : Hid (LexAt B w) := Lib.hid (by rw [← hB]; exact hg.at)
    have Hb := Lib.hid hB
    have Hw2 := Lib.hid hw2
    clear hb1 hr1 hI2 hb2 hr2 hg hw2
    go_enter Tryd.func28, Tryd.ntmps28
    go_wp2_with fail
    clear hw1 hB hbq
    rw [Hw2.out]
    clear Hw2
    refine (skip_any B b s 0 [] _ HI2.out (by omega) (by omega) hB2).mono ?_
    rintro e w3 ⟨rfl, hI3, hW3⟩
    have HI3 := Lib.hid hI3
    have HR3 := Lib.hid (hW3.keep HR2.out (by omega) (by decide))
    have HB3 := Lib.hid (HB2.out.trans hW3.below)
    clear hI3 hW3
    go_wp2_with fail
    go_loopw [] (fun wr => ∃ (i : Nat) (l : List Tok), i ≤ s.size ∧ l.length ≤ i ∧ IsScan B b s (skipOf s i) l wr ∧ wr.heap[B]? = some (.cells #[.int .i64 0, .int .i64 0] 71 (0, 0)) ∧ Below B w wr ∧ scanFrom s i l = scanFrom s 0 []) (fun wr => scanMeas b s wr)
    case atStart => exact ⟨0, [], by omega, by simp, HI3.out, HR3.out, HB3.out, rfl⟩
    case round =>
      obtain ⟨i, l, hi, hl, hI, hr, hbl, hsc⟩ := hrel
      have hk := skipOf_le s i hi
      have hik := skipOf_ge s i
      have HS := Lib.hid hsc
      obtain ⟨k, hkk⟩ : ∃ k, skipOf s i = k := ⟨_, rfl⟩
      rw [hkk] at hk hik hI
      have Hk := Lib.hid hkk
      have HM : Hid (scanMeas b s wr = s.size - k) := Lib.hid (scanMeas_eq hI)
      have c0 := hI.c0
      have c1 := hI.c1
      have hBlt : B < wr.heap.size := by have := hI.lt; omega
      have hBw : B ≤ wr.heap.size := by omega
      have HI := Lib.hid hI
      have HR := Lib.hid hr
      have HBl := Lib.hid hbl
      clear hI hr hbl hsc hkk
      by_cases hlt : k < s.size
      · go_wp2_with fail
        refine (token_any B b s k l _ HI.out hlt hs' (by omega) hBw (HG.out.below HBl.out)).mono ?_
        rintro e w4 ho
        obtain ⟨res, hres⟩ : ∃ res, tokenAt s k = res := ⟨_, rfl⟩
        rw [hres] at ho
        have Hres := Lib.hid hres
        clear hres
        cases res with
        | inl a =>
          obtain ⟨hW4, rfl⟩ := ho
          have hr4 := hW4.keep HR.out (by omega) (by decide)
          have hsz4 : B < w4.heap.size := by have := hW4.size; omega
          obtain ⟨w5, hw5⟩ : ∃ w5, w4.alloc (.cells #[.int .i64 9, .int .i64 a] 71) = w5 := ⟨_, rfl⟩
          obtain ⟨r5, hr5⟩ : ∃ r5, w4.heap.size = r5 := ⟨_, rfl⟩
          have hb5 : Below w4.heap.size w4 w5 := by rw [← hw5]; exact (Below.refl _ _).alloc (Nat.le_refl _) _
          have hh5 : w5.heap[r5]? = some (.cells #[.int .i64 9, .int .i64 a] 71 (0, 0)) := by rw [← hw5, ← hr5]; exact heap_new _ _
          have hh0 : w5.heap[B]? = some (.cells #[.int .i64 0, .int .i64 0] 71 (0, 0)) := by rw [hb5.block B hsz4]; exact hr4
          have HSF : Hid (scanAll s = .inl (9, a)) := Lib.hid (scanAll_bad hs' (by rw [← HS.out]; exact scanFrom_fault (by rw [Hk.out]; exact hlt) (by rw [Hk.out]; exact Hres.out)))
          have HB5 := Lib.hid ((HBl.out.trans hW4.below).trans (hb5.mono (by omega)))
          have k0 : w5.cell? ⟨r5, 0, none⟩ = some (.int .i64 9) := by rw [Lib.cell_of_heap hh5]; rfl
          have k1 : w5.cell? ⟨r5, 1, none⟩ = some (.int .i64 a) := by rw [Lib.cell_of_heap hh5]; rfl
          have d0 : w5.cell? ⟨B, 0, none⟩ = some (.int .i64 0) := by rw [Lib.cell_of_heap hh0]; rfl
          have d1 : w5.cell? ⟨B, 1, none⟩ = some (.int .i64 0) := by rw [Lib.cell_of_heap hh0]; rfl
          have f0 := Lib.frozen_of_heap hh0 0
          have f1 := Lib.frozen_of_heap hh0 1
          have hne : B < r5 := by omega
          clear hW4 hr4 hb5 hh5 hh0
          go_wp2_with fail
          clear hw5 hr5
          go_region
          all_goals
            go_wp2_with fail
            refine bodyPost_ret (v := .tuple #[.slice none 0 0, faultV 9 a]) ?_ rfl ?_
            · simp [faultV, results, Tryd.results28, go_sem, d0, d1]
            rw [HSF.out]
            refine ⟨?_, rfl⟩
            rw [Hb.out]
            first | exact ((HB5.out.setCell (p := ⟨B, 0, none⟩) (Nat.le_refl _) _).setCell (p := ⟨B, 1, none⟩) (Nat.le_refl _) _).drew | exact ((HB5.out.drew.setCell (p := ⟨B, 0, none⟩) (Nat.le_refl _) _).setCell (p := ⟨B, 1, none⟩) (Nat.le_refl _) _)
        | inr p =>
          obtain ⟨t, j⟩ := p
          obtain ⟨hW4, rfl, hI4⟩ := ho
          have hr4 := hW4.keep HR.out (by omega) (by decide)
          have hsz4 : B < w4.heap.size := by have := hW4.size; have := hI4.lt; omega
          obtain ⟨w5, hw5⟩ : ∃ w5, w4.alloc (.cells #[.int .i64 0, .int .i64 0] 71) = w5 := ⟨_, rfl⟩
          obtain ⟨r5, hr5⟩ : ∃ r5, w4.heap.size = r5 := ⟨_, rfl⟩
          have hb5 : Below w4.heap.size w4 w5 := by rw [← hw5]; exact (Below.refl _ _).alloc (Nat.le_refl _) _
          have hh5 : w5.heap[r5]? = some (.cells #[.int .i64 0, .int .i64 0] 71 (0, 0)) := by rw [← hw5, ← hr5]; exact heap_new _ _
          have hh0 : w5.heap[B]? = some (.cells #[.int .i64 0, .int .i64 0] 71 (0, 0)) := by rw [hb5.block B hsz4]; exact hr4
          obtain ⟨hkj, hjs, _⟩ := tokenAt_gt hlt Hres.out
          have HSF : Hid (scanFrom s j (l ++ [t]) = scanFrom s 0 []) := Lib.hid (by rw [← HS.out]; exact (scanFrom_step (by rw [Hk.out]; exact hlt) (by rw [Hk.out]; exact Hres.out)).symm)
          have HB5 := Lib.hid ((HBl.out.trans hW4.below).trans (hb5.mono (by omega)))
          have HI5 := Lib.hid (hI4.old hb5)
          have HR5 := Lib.hid hh0
          have hB5 : B ≤ w5.heap.size := by have := hb5.size; omega
          have Hw5 := Lib.hid hw5
          clear hW4 hr4 hb5 hh5 hh0 hI4 hw5 hr5
          go_wp2_with fail
          rw [Hw5.out]
          clear Hw5
          refine (skip_any B b s j (l ++ [t]) _ HI5.out hjs (by omega) hB5).mono ?_
          rintro e w6 ⟨rfl, hI6, hW6⟩
          have HI6 := Lib.hid hI6
          have HR6 := Lib.hid (hW6.keep HR5.out (by omega) (by decide))
          have HB6 := Lib.hid (HB5.out.trans hW6.below)
          have hge := skipOf_ge s j
          clear hI6 hW6
          go_wp2_with fail
          go_roundw
          case rel => exact ⟨j, l ++ [t], hjs, by simp; omega, HI6.out, HR6.out, HB6.out, HSF.out⟩
          case measure => rw [HM.out, scanMeas_eq HI6.out]; omega
      · have HSF : Hid (scanAll s = .inr (l ++ [⟨6, ⟨#[]⟩, 0, k⟩])) := Lib.hid (scanAll_ok hs' (by rw [← HS.out, scanFrom_end (by rw [Hk.out]; exact hlt), Hk.out]))
        go_wp2_with fail
        refine (put_at B b s k l 6 0 k _ _ _ _ _ HI.out (by omega) hBw rfl rfl rfl).mono ?_
        rintro e w4 ⟨rfl, hI4, hW4⟩
        obtain ⟨v, c2, hown⟩ := hI4.own
        have hh0 := hW4.keep HR.out (by omega) (by decide)
        have d0 : w4.cell? ⟨B, 0, none⟩ = some (.int .i64 0) := by rw [Lib.cell_of_heap hh0]; rfl
        have d1 : w4.cell? ⟨B, 1, none⟩ = some (.int .i64 0) := by rw [Lib.cell_of_heap hh0]; rfl
        have f0 := Lib.frozen_of_heap hh0 0
        have f1 := Lib.frozen_of_heap hh0 1
        have HR4 := Lib.hid hh0
        have HO4 := Lib.hid hown
        have HB4 := Lib.hid (HBl.out.trans hW4.below)
        clear hI4 hW4 hown hh0
        go_wp2_with fail
        refine bodyPost_ret (v := .tuple #[v, faultV 0 0]) ?_ rfl ?_
        · simp [faultV, results, Tryd.results28, go_sem, d0, d1]
        rw [HSF.out]
        obtain ⟨c', hc'⟩ := set_kind HR4.out 0 (.int .i64 0)
        refine ⟨?_, v, rfl, ?_⟩
        · rw [Hb.out]
          exact (HB4.out.setCell (p := ⟨B, 0, none⟩) (Nat.le_refl _) _).setCell (p := ⟨B, 1, none⟩) (Nat.le_refl _) _
        · rw [Hb.out]
          exact own_other (own_other HO4.out HR4.out (by decide) 0 _) hc' (by decide) 1 _
end Go.Proofs.YtaijdpckkobofaaDoor
