/- LexQuotes, walked to its end. -/
import Derived.Test.YtaijdpckkobofaaDoorLaw21q
namespace Go.Proofs.YtaijdpckkobofaaDoor
open Go.RowKit
set_option linter.unusedVariables false

/-- S of the last region: what it reads -/
def QS (a : Option Addr) (l : List UInt8) (w : World) : Prop := ByA w a l

set_option maxRecDepth 100000 in
set_option maxHeartbeats 2000000 in
/-- from the cut on: a slice of at most 1500 bytes -/
theorem quotes_tail (a : Option Addr) (c n : Nat) (l : List UInt8) (w0 : World) (hg : LexW w0) (hA : ByA w0 a l) (hn : l.length = n) (hnc : n ≤ c) (h0 : a = none → c = 0) (hl : n ≤ 1500) (ht : w0.cell? ⟨6, 15, none⟩ = some (.int .u8 4)) :
    (∀ W, Below w0.heap.size w0 W → Calls Tryd.prog 15 #[.slice a n c] W (CopyOut W l)) ∧
    (∀ W v, Below w0.heap.size w0 W → W.ownsRow w0.heap.size 5 1 v l.length (Lib.byteCells l) → Calls Tryd.prog 29 #[v] W fun e w' => e = .returned (.string ⟨(quoteOf l).toArray⟩) ∧ Below W.heap.size W w') ∧
    (∀ W, Below w0.heap.size w0 W → Calls Tryd.prog 28 #[.string ⟨(quoteOf l).toArray⟩] W (ScanOut W (.inr [⟨4, ⟨l.toArray⟩, 0, 0⟩, ⟨6, ⟨#[]⟩, 0, (quoteOf l).length⟩]))) ∧
    (∀ W, Below w0.heap.size w0 W → Calls Tryd.prog 30 #[.slice a n c] W fun e w' => e = .returned (.string ⟨(quoteOf l).toArray⟩) ∧ Below W.heap.size W w') ∧
    (∀ W, ByA W a l → (convert 35 9 (.slice a n c)).run Tryd.prog W = .ok (.string ⟨l.toArray⟩) W) := by
  refine ⟨fun W k => copy_at a c n l W (hA.below k) hn h0 (by omega), ?_, ?_, fun W k => rquote_n a c n l _ W (hA.below k) hn hnc (by omega) rfl, fun W k => conv_at a c n l _ W k hn rfl⟩
  · intro W v k ho
    obtain ⟨a', c', rfl, hA'⟩ := (ByIn.own ho).at
    exact quote_n a' c' l.length l _ W hA' rfl (by omega) (tz_below (B := 0) ht k) rfl
  · intro W k
    have := scan_any ⟨(quoteOf l).toArray⟩ W (hg.below k)
    have hsz := quoteOf_len l
    rw [scanAll_ok (by rw [Lib.size_eq]; show (quoteOf l).length ≤ 8000; omega) (scan_quoted l)] at this
    exact this

theorem quote0 : quoteOf [97, 34, 10, 0] = [34, 97, 92, 34, 92, 110, 92, 120, 48, 48, 34] := by decide

set_option maxRecDepth 100000 in
set_option maxHeartbeats 2000000 in
theorem lexQuotes_walk (a : Option Addr) (c n : Nat) (l : List UInt8) (w : World) (hg : LexW w) (hA : ByA w a l) (hn : l.length = n) (hnc : n ≤ c) (hcm : c ≤ maxLen) (h0 : a = none → c = 0) (ht : w.cell? ⟨6, 15, none⟩ = some (.int .u8 4)) :
    Calls Tryd.prog 7 #[.slice a n c] w fun e w' => e = .returned (.bool true) ∧ Below w.heap.size w w' := by
  unfold maxLen at hcm
  have HQ0 : Hid (∀ W, Below w.heap.size w W → Calls Tryd.prog 29 #[.slice (some ⟨W.heap.size, 0, none⟩) 4 4] (W.alloc (.cells #[.int .u8 97, .int .u8 34, .int .u8 10, .int .u8 0] 5)) fun e w' => e = .returned (.string ⟨#[34, 97, 92, 34, 92, 110, 92, 120, 48, 48, 34]⟩) ∧ Below (W.alloc (.cells #[.int .u8 97, .int .u8 34, .int .u8 10, .int .u8 0] 5)).heap.size (W.alloc (.cells #[.int .u8 97, .int .u8 34, .int .u8 10, .int .u8 0] 5)) w') := Lib.hid fun W k =>
    quote_n _ _ 4 [97, 34, 10, 0] _ _ (ByA.new W [97, 34, 10, 0] _ rfl) rfl (by decide) (tz_below (B := 0) ht (k.alloc k.size _)) (by rw [quote0])
  obtain ⟨m, l', hm, hl', hcase⟩ : ∃ (m : Nat) (l' : List UInt8), m ≤ 1500 ∧ l'.length = m ∧ ByA w a l' ∧ m ≤ c ∧ ((1500 < n ∧ m = 1500) ∨ (¬ 1500 < n ∧ m = n)) := by
    by_cases h : 1500 < n
    · exact ⟨1500, l.take 1500, by omega, by rw [List.length_take]; omega, hA.take _, by omega, Or.inl ⟨h, rfl⟩⟩
    · exact ⟨n, l, by omega, hn, hA, hnc, Or.inr ⟨h, rfl⟩⟩
  obtain ⟨hA', hmc, hcase⟩ := hcase
  obtain ⟨h1, h2, h3, h4, h5⟩ := quotes_tail a c m l' w hg hA' hl' hmc h0 hm ht
  generalize (⟨(quoteOf l').toArray⟩ : ByteArray) = q at *
  generalize (quoteOf l').length = ql at *
  generalize (⟨l'.toArray⟩ : ByteArray) = tx at *
  have H1 := Lib.hid h1
  have H2 := Lib.hid h2
  have H3 := Lib.hid h3
  have H4 := Lib.hid h4
  have H5 := Lib.hid h5
  have HA' := Lib.hid hA'
  have HAw := Lib.hid (awake21 w hg)
  clear hA hA' h1 h2 h3 h4 h5 ht hg hl' hn
  rcases hcase with ⟨hbig, rfl⟩ | ⟨hsm, rfl⟩
  all_goals
    go_enter Tryd.func7, Tryd.ntmps7
    go_wp2_with fail
    refine HAw.out.mono ?_
    rintro e w1 ⟨rfl, hb1⟩
    have HB1 := Lib.hid hb1
    have hs1 := hb1.size
    clear hb1
    go_wp2_with fail
    refine (HQ0.out w1 HB1.out).mono ?_
    rintro e w2 ⟨rfl, hb2⟩
    have HB2 := Lib.hid ((HB1.out.alloc hs1 _).trans (hb2.mono (by rw [World.size_alloc]; omega)))
    clear hb2
    go_wp2_with fail
    refine (H1.out w2 HB2.out).mono ?_
    rintro e w3 ⟨v, rfl, hown, hb3⟩
    have hs2 := HB2.out.size
    have HB3 := Lib.hid (HB2.out.trans (hb3.mono hs2))
    have hown' : w3.ownsRow w.heap.size 5 1 v l'.length (Lib.byteCells l') := own_base hs2 hown
    have HO := Lib.hid hown'
    clear hown hb3 hown'
    go_wp2_with fail
    refine (H2.out w3 _ HB3.out HO.out).mono ?_
    rintro e w4 ⟨rfl, hb4⟩
    have hs3 := HB3.out.size
    have HB4 := Lib.hid (HB3.out.trans (hb4.mono hs3))
    clear hb4
    go_wp2_with fail
    refine (H3.out w4 HB4.out).mono ?_
    rintro e w5 ⟨hb5, v5, rfl, hown5⟩
    obtain ⟨g, cap, rfl, hgB, hgl, htok, hcap⟩ := TokAt_own hown5 (by simp)
    have hs4 := HB4.out.size
    have HB5 := Lib.hid (HB4.out.trans (hb5.mono hs4))
    have hs5 := HB5.out.size
    obtain ⟨w6, hw6⟩ : ∃ w6, w5.alloc (.cells #[.int .i64 0, .int .i64 0] 71) = w6 := ⟨_, rfl⟩
    obtain ⟨r, hr⟩ : ∃ r, w5.heap.size = r := ⟨_, rfl⟩
    have hb6 : Below w5.heap.size w5 w6 := by rw [← hw6]; exact (Below.refl _ _).alloc (Nat.le_refl _) _
    have hh6 : w6.heap[r]? = some (.cells #[.int .i64 0, .int .i64 0] 71 (0, 0)) := by rw [← hw6, ← hr]; exact heap_new _ _
    have HB6 := Lib.hid (HB5.out.trans (hb6.mono hs5))
    have ht6 := htok.below hb6 hgl
    obtain ⟨t0, t1, t2, t3⟩ := ht6.at0 (k := 0) (t := ⟨4, tx, 0, 0⟩) rfl
    simp only [Nat.zero_mul, Nat.zero_add] at t0 t1 t2 t3
    have f0 : w6.cell? ⟨r, 0, none⟩ = some (.int .i64 0) := by rw [Lib.cell_of_heap hh6]; rfl
    have hg6 : g < w6.heap.size := by have := hb6.size; omega
    have hr6 : r < w6.heap.size := by rw [← hw6, World.size_alloc]; omega
    have hq6 : QS a l' w6 := HA'.out.below HB6.out
    have Hw6 := Lib.hid hw6
    have Hr := Lib.hid hr
    clear hb5 hown5 htok hb6 hh6 ht6 hw6 hr hgB hgl
    go_upto_region 7 with fail
    rw [Hw6.out, Hr.out]
    clear Hw6 Hr
    have hcv : ∀ W, QS a l' W → _ := H5.out
    have hqd : QS a l' w6.drew := hq6
    go_region_held3 (fun w' => w'.cell? ⟨r, 0, none⟩ = some (.int .i64 0) ∧ w'.cell? ⟨g, 0, none⟩ = some (.int .i64 4) ∧ w'.cell? ⟨g, 1, none⟩ = some (.string tx) ∧ w'.cell? ⟨g, 2, none⟩ = some (.int .i64 0) ∧ w'.cell? ⟨g, 3, none⟩ = some (.int .i64 0) ∧ QS a l' w') (first | go_keep | exact ⟨(hb7.cell (p := ⟨r, 0, none⟩) hr6).trans f0, (hb7.cell (p := ⟨g, 0, none⟩) hg6).trans t0, (hb7.cell (p := ⟨g, 1, none⟩) hg6).trans t1, (hb7.cell (p := ⟨g, 2, none⟩) hg6).trans t2, (hb7.cell (p := ⟨g, 3, none⟩) hg6).trans t3, ByA.below hq6 hb7⟩) (first | (go_at_call 30; refine (H4.out _ (Below.drew HB6.out)).mono ?_; rintro e w7 ⟨rfl, hb7d⟩; have hb7 : Below w6.heap.size w6 w7 := Below.trans (Below.drew (Below.refl _ _)) hb7d; clear hb7d))
    all_goals
      have HB7 := Lib.hid (HB6.out.trans (hb7.mono HB6.out.size))
      clear hb7
      go_wp2_with fail
      go_ret
      exact ⟨rfl, HB7.out⟩
end Go.Proofs.YtaijdpckkobofaaDoor
