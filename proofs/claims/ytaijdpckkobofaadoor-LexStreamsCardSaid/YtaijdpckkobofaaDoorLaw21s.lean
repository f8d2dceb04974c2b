/- LexStreams, walked. -/
import Derived.Test.YtaijdpckkobofaaDoorStr6
import Derived.Test.YtaijdpckkobofaaDoorRef3
import Derived.Test.YtaijdpckkobofaaDoorLaw21b
import Derived.Deep.CutBlock
namespace Go.Proofs.YtaijdpckkobofaaDoor
open Go.RowKit
set_option linter.unusedVariables false

theorem tok_next {L l0 : List Tok} {n i : Nat} {t : Tok} (hL : L = l0 ++ [⟨6, ⟨#[]⟩, 0, n⟩]) (ht : L[i]? = some t) (h6 : t.kind ≠ 6) : i + 1 < L.length := by
  subst hL
  have hi := (List.getElem?_eq_some_iff.1 ht).1
  simp only [List.length_append, List.length_singleton] at *
  by_cases h : i = l0.length
  · subst h
    rw [List.getElem?_append_right (Nat.le_refl _)] at ht
    simp at ht
    subst ht
    exact absurd rfl h6
  · omega
structure ActD where
  kind : Int
  n : Int
  text : ByteArray
  ta : Option Addr
  tn : Nat
  tc : Nat
  texts : List ByteArray
structure ActOk (w : World) (a : ActD) : Prop where
  texts : TextsAt w a.ta a.texts
  len : a.texts.length = a.tn
  cap : a.tn ≤ a.tc
  nil : a.ta = none → a.tc = 0
  big : a.tn * 16 ≤ 140737488355328
def ActsAt (w : World) (aa : Option Addr) (l : List ActD) : Prop := ∀ (k : Nat) (a : ActD), l[k]? = some a → ∃ g o, aa = some ⟨g, o, none⟩ ∧ g < w.heap.size ∧ w.cell? ⟨g, o + k * 4, none⟩ = some (.int .i64 a.kind) ∧ w.cell? ⟨g, o + k * 4 + 1, none⟩ = some (.int .i64 a.n) ∧ w.cell? ⟨g, o + k * 4 + 2, none⟩ = some (.string a.text) ∧ w.cell? ⟨g, o + k * 4 + 3, none⟩ = some (.slice a.ta a.tn a.tc) ∧ ActOk w a

theorem ActsAt.below {w w' : World} {aa : Option Addr} {l : List ActD} (h : ActsAt w aa l) (k : Below w.heap.size w w') : ActsAt w' aa l := fun i a ha => by
  obtain ⟨g, o, he, hg, h0, h1, h2, h3, h4⟩ := h i a ha
  exact ⟨g, o, he, Nat.lt_of_lt_of_le hg k.size, (k.cell (p := ⟨g, _, none⟩) hg).trans h0, (k.cell (p := ⟨g, _, none⟩) hg).trans h1, (k.cell (p := ⟨g, _, none⟩) hg).trans h2, (k.cell (p := ⟨g, _, none⟩) hg).trans h3, ⟨h4.texts.below k, h4.len, h4.cap, h4.nil, h4.big⟩⟩

theorem peeks_nil (b : Nat) (w : World) (hb : w.heap[b]? = some (.cells #[.slice none 0 0] 80 (0, 0))) : Peeks b 6 ⟨#[]⟩ 0 0 w := fun W hW =>
  peek_nil b W ((hW.block b (Array.getElem?_eq_some_iff.1 hb).1).trans hb)

set_option maxRecDepth 100000 in
set_option maxHeartbeats 20000000 in
theorem lexStreams_walk (s : ByteArray) (aa : Option Addr) (an ac : Nat) (l : List ActD) (w : World) (hg : LexW w) (hA : ActsAt w aa l) (hn : l.length = an) (hnc : an ≤ ac) (h0 : aa = none → ac = 0) (hbig : ac ≤ 140737488355328) :
    Calls Tryd.prog 8 #[.string s, .slice aa an ac] w fun e w' => e = .returned (.bool true) ∧ Below w.heap.size w w' := by
  go_enter Tryd.func8, Tryd.ntmps8
  go_wp2_with fail
  refine (awake21 w hg).mono ?_
  rintro e w1 ⟨rfl, hb1⟩
  have HG1 := Lib.hid (hg.below hb1)
  have HB1 := Lib.hid hb1
  have HA1 := Lib.hid (hA.below hb1)
  have hs1 := hb1.size
  clear hb1 hg hA
  obtain ⟨w2, z, hw2, hz⟩ : ∃ w2 z, w1.alloc (.cells #[.slice none 0 0] 80) = w2 ∧ w1.heap.size = z := ⟨_, _, rfl, rfl⟩
  have hb2 : Below w1.heap.size w1 w2 := by rw [← hw2]; exact (Below.refl _ _).alloc (Nat.le_refl _) _
  have hz2 : w2.heap[z]? = some (.cells #[.slice none 0 0] 80 (0, 0)) := by rw [← hw2, ← hz]; exact heap_new _ _
  have HP := Lib.hid (peeks_nil z w2 hz2)
  have HB2 := Lib.hid (HB1.out.trans (hb2.mono hs1))
  have HG2 := Lib.hid (HG1.out.below hb2)
  have HA2 := Lib.hid (HA1.out.below hb2)
  have hs2 : w.heap.size ≤ w2.heap.size := HB2.out.size
  have hzl : z < w2.heap.size := (Array.getElem?_eq_some_iff.1 hz2).1
  have Hw2 := Lib.hid hw2
  have Hz := Lib.hid hz
  clear hb2 hz2 hw2 hz HG1 HA1
  go_upto_region 4 with fail
  rw [Hw2.out, Hz.out]
  clear Hw2 Hz
  go_wp2_with fail
  refine (HP.out _ (Below.refl _ _)).mono ?_
  rintro e w3 ⟨rfl, hb3⟩
  have HP3 := Lib.hid (HP.out.below hb3)
  have HB3 := Lib.hid (HB2.out.trans (hb3.mono hs2))
  have HG3 := Lib.hid (HG2.out.below hb3)
  have HA3 := Lib.hid (HA2.out.below hb3)
  have hs3 : w.heap.size ≤ w3.heap.size := HB3.out.size
  have hz3 : z < w3.heap.size := by have := hb3.size; omega
  clear hb3
  go_wp2_with fail
  refine (next_stay z ⟨#[]⟩ 0 0 w3 hz3 HP3.out).mono ?_
  rintro e w4 ⟨rfl, hb4⟩
  have HP4 := Lib.hid (HP3.out.below hb4)
  have HB4 := Lib.hid (HB3.out.trans (hb4.mono hs3))
  have HG4 := Lib.hid (HG3.out.below hb4)
  have HA4 := Lib.hid (HA3.out.below hb4)
  have hs4 : w.heap.size ≤ w4.heap.size := HB4.out.size
  clear hb4
  obtain ⟨w5, blk, hw5, hblk⟩ : ∃ w5 blk, w4.alloc (.cells #[.string ⟨#[59]⟩] 9) = w5 ∧ w4.heap.size = blk := ⟨_, _, rfl, rfl⟩
  have hb5 : Below w4.heap.size w4 w5 := by rw [← hw5]; exact (Below.refl _ _).alloc (Nat.le_refl _) _
  have hc5 : w5.cell? ⟨blk, 0, none⟩ = some (.string ⟨#[59]⟩) := by rw [← hw5, ← hblk]; exact (Lib.cell_of_heap (heap_new _ _) _).trans rfl
  have hl5 : blk < w5.heap.size := by rw [← hw5, ← hblk, World.size_alloc]; omega
  have HI : Hid (Calls Tryd.prog 33 #[.pointer (some ⟨z, 0, none⟩), .slice (some ⟨blk, 0, none⟩) 1 1] w5 fun e w' => e = .returned (.bool false) ∧ Below w5.heap.size w5 w') := Lib.hid
    (is_at z (.slice (some ⟨blk, 0, none⟩) 1 1) 6 0 0 ⟨#[]⟩ (decide ((⟨#[]⟩ : ByteArray) = ⟨#[59]⟩)) w5 (HP4.out.below hb5) (fun W hW => contains_one blk ⟨#[59]⟩ ⟨#[]⟩ W ((hW.cell (p := ⟨blk, 0, none⟩) hl5).trans hc5)))
  have HB5 := Lib.hid (HB4.out.trans (hb5.mono hs4))
  have HG5 := Lib.hid (HG4.out.below hb5)
  have HA5 := Lib.hid (HA4.out.below hb5)
  have hs5 : w.heap.size ≤ w5.heap.size := HB5.out.size
  clear hb5 hc5 hl5 HP HP3 HP4 HG2 HG3 HG4 HA2 HA3 HA4 HB1 HB2 HB3 HB4
  go_wp2_with fail
  refine HI.out.mono ?_
  rintro e w6 ⟨rfl, hb6⟩
  clear hw5 hblk HI
  have HB6 := Lib.hid (HB5.out.trans (hb6.mono hs5))
  have HG6 := Lib.hid (HG5.out.below hb6)
  have HA6 := Lib.hid (HA5.out.below hb6)
  have hs6 : w.heap.size ≤ w6.heap.size := HB6.out.size
  clear hb6 HG5 HA5 HB5
  go_wp2_with fail
  refine (newStream_any s w6 HG6.out).mono ?_
  rintro e w7 ho
  clear HG6
  have HR := Lib.hid (fun W => rscan_any s W)
  cases hres : scanAll s with
  | inl p =>
    obtain ⟨x, a⟩ := p
    rw [hres] at ho HR
    obtain ⟨hb7, rfl⟩ := ho
    have hxa := fault_ne hres
    obtain ⟨w8, f1, hw8, hf1⟩ : ∃ w8 f1, w7.alloc (.cells #[.int .i64 x, .int .i64 a] 71) = w8 ∧ w7.heap.size = f1 := ⟨_, _, rfl, rfl⟩
    have hb8 : Below w7.heap.size w7 w8 := by rw [← hw8]; exact (Below.refl _ _).alloc (Nat.le_refl _) _
    have hh8 : w8.heap[f1]? = some (.cells #[.int .i64 x, .int .i64 a] 71 (0, 0)) := by rw [← hw8, ← hf1]; exact heap_new _ _
    have hf8 : f1 < w8.heap.size := (Array.getElem?_eq_some_iff.1 hh8).1
    have HB7 := Lib.hid (HB6.out.trans (hb7.mono hs6))
    have HB8 := Lib.hid (HB7.out.trans (hb8.mono HB7.out.size))
    have HH8 := Lib.hid hh8
    clear hb7 hb8 hh8
    go_wp2_with fail
    clear hw8 hf1
    refine (HR.out _).mono ?_
    rintro e w9 ⟨hb9, rfl⟩
    have hh9 := (hb9.block f1 hf8).trans HH8.out
    obtain ⟨w10, f2, hw10, hf2⟩ : ∃ w10 f2, w9.alloc (.cells #[.int .i64 x, .int .i64 a] 71) = w10 ∧ w9.heap.size = f2 := ⟨_, _, rfl, rfl⟩
    have hb10 : Below w9.heap.size w9 w10 := by rw [← hw10]; exact (Below.refl _ _).alloc (Nat.le_refl _) _
    have hh10 : w10.heap[f2]? = some (.cells #[.int .i64 x, .int .i64 a] 71 (0, 0)) := by rw [← hw10, ← hf2]; exact heap_new _ _
    have hf9 : f1 < w9.heap.size := by have := hb9.size; omega
    have hh1 := (hb10.block f1 hf9).trans hh9
    have p0 : w10.cell? ⟨f1, 0, none⟩ = some (.int .i64 x) := (Lib.cell_of_heap hh1 _).trans rfl
    have p1 : w10.cell? ⟨f1, 1, none⟩ = some (.int .i64 a) := (Lib.cell_of_heap hh1 _).trans rfl
    have q0 : w10.cell? ⟨f2, 0, none⟩ = some (.int .i64 x) := (Lib.cell_of_heap hh10 _).trans rfl
    have q1 : w10.cell? ⟨f2, 1, none⟩ = some (.int .i64 a) := (Lib.cell_of_heap hh10 _).trans rfl
    have HB9 := Lib.hid (HB8.out.trans (hb9.mono HB8.out.size))
    have HB10 := Lib.hid (HB9.out.trans (hb10.mono HB9.out.size))
    clear hb9 hb10 hh9 hh10 hh1
    go_upto_region 8 with fail
    clear hw10 hf2
    go_wp2_with fail
    go_ret
    exact ⟨rfl, HB10.out⟩
  | inr L =>
    rw [hres] at ho HR
    obtain ⟨hb7, b, g, cap, rfl, hbw, hgw, hgb, hcap, hS7, hT7⟩ := ho
    obtain ⟨h8000, l0, hL, hTs⟩ := scanAll_toks hres
    have hL0 : 0 < L.length := by rw [hL]; simp
    obtain ⟨w8, f1, hw8, hf1⟩ : ∃ w8 f1, w7.alloc (.cells #[.int .i64 0, .int .i64 0] 71) = w8 ∧ w7.heap.size = f1 := ⟨_, _, rfl, rfl⟩
    have hb8 : Below w7.heap.size w7 w8 := by rw [← hw8]; exact (Below.refl _ _).alloc (Nat.le_refl _) _
    have hh8 : w8.heap[f1]? = some (.cells #[.int .i64 0, .int .i64 0] 71 (0, 0)) := by rw [← hw8, ← hf1]; exact heap_new _ _
    have hf8 : f1 < w8.heap.size := (Array.getElem?_eq_some_iff.1 hh8).1
    have hB67 := hb7
    have HB7 := Lib.hid (HB6.out.trans (hb7.mono hs6))
    have HB8 := Lib.hid (HB7.out.trans (hb8.mono HB7.out.size))
    have HB68 := Lib.hid (hb7.trans (hb8.mono hb7.size))
    have HH8 := Lib.hid hh8
    have HS8 := Lib.hid (hS7.below hb8)
    have hb7l := hS7.lt
    have HT8 := Lib.hid (hT7.below hb8 (by omega))
    have hbl8 : b < w8.heap.size := HS8.out.lt
    have Hw8 := Lib.hid hw8
    have Hf1 := Lib.hid hf1
    clear hb7 hb8 hh8 hw8 hf1 hS7 hT7 hB67
    go_upto_region 7 with fail
    rw [Hw8.out, Hf1.out]
    clear Hw8 Hf1
    go_wp2_with fail
    refine (HR.out _).mono ?_
    rintro e w9 ⟨hb9, v2, rfl, hown⟩
    clear HR
    obtain ⟨g2, cap2, rfl, hg2b, hg2l, htok2, hcap2⟩ := TokAt_own hown hL0
    have hh9 := (hb9.block f1 hf8).trans HH8.out
    obtain ⟨w10, f2, hw10, hf2⟩ : ∃ w10 f2, w9.alloc (.cells #[.int .i64 0, .int .i64 0] 71) = w10 ∧ w9.heap.size = f2 := ⟨_, _, rfl, rfl⟩
    have hb10 : Below w9.heap.size w9 w10 := by rw [← hw10]; exact (Below.refl _ _).alloc (Nat.le_refl _) _
    have hh10 : w10.heap[f2]? = some (.cells #[.int .i64 0, .int .i64 0] 71 (0, 0)) := by rw [← hw10, ← hf2]; exact heap_new _ _
    have hf9 : f1 < w9.heap.size := by have := hb9.size; omega
    have hh1 := (hb10.block f1 hf9).trans hh9
    have p0 : w10.cell? ⟨f1, 0, none⟩ = some (.int .i64 0) := (Lib.cell_of_heap hh1 _).trans rfl
    have p1 : w10.cell? ⟨f1, 1, none⟩ = some (.int .i64 0) := (Lib.cell_of_heap hh1 _).trans rfl
    have q0 : w10.cell? ⟨f2, 0, none⟩ = some (.int .i64 0) := (Lib.cell_of_heap hh10 _).trans rfl
    have q1 : w10.cell? ⟨f2, 1, none⟩ = some (.int .i64 0) := (Lib.cell_of_heap hh10 _).trans rfl
    have hb810 : Below w8.heap.size w8 w10 := hb9.trans (hb10.mono hb9.size)
    have HB10 := Lib.hid (HB8.out.trans (hb810.mono HB8.out.size))
    have HB610 := Lib.hid (HB68.out.trans (hb810.mono HB68.out.size))
    have HS10 := Lib.hid (HS8.out.below hb810)
    have HT10 := Lib.hid (HT8.out.below hb810 (by omega))
    have HT2 := Lib.hid (htok2.below hb10 hg2l)
    have hg10 : g < w10.heap.size := by have := HS10.out.lt; omega
    have hg2l10 : g2 < w10.heap.size := by have := hb10.size; omega
    have hbg2 : g2 ≠ b := by omega
    have hgb' : g ≠ b := by omega
    have hwb : w.heap.size ≤ b := by omega
    have HTs := Lib.hid hTs
    have HL := Lib.hid hL
    have Hw10 := Lib.hid hw10
    have Hf2 := Lib.hid hf2
    clear hb9 hb10 hh9 hh10 hh1 hb810 hown htok2 hw10 hf2 hTs hL hres HB7 HB8 HB68 HS8 HT8
    go_upto_region 8 with fail
    rw [Hw10.out, Hf2.out]
    clear Hw10 Hf2
    go_wp2_with fail
    clear p0 p1 q0 q1
    go_loopw [10, 63] (fun idx rng wr => ∃ i k : Nat, k ≤ an ∧ i < L.length ∧ idx = .int .i64 i ∧ rng = .int .i64 k ∧ StrI b g cap L.length i wr ∧ StW b w10 wr) (fun _ rng _ => an - (intOf rng).toNat)
    case atStart => exact ⟨0, 0, by omega, hL0, rfl, rfl, by unfold StrI; simpa using HS10.out, StW.of (Below.refl _ _) (by omega)⟩
    case round =>
      obtain ⟨i, k, hk, hi, rfl, rfl, hS, hW⟩ := hrel
      by_cases hlt : k < an
      · have hsz := hW.below.size
        have hB6r : Below w6.heap.size w6 wr := HB610.out.trans (hW.below.mono hbw)
        obtain ⟨ac1, hac1⟩ : ∃ a, l[k]? = some a := ⟨_, List.getElem?_eq_getElem (by omega)⟩
        obtain ⟨t, ht⟩ : ∃ t, L[i]? = some t := ⟨_, List.getElem?_eq_getElem hi⟩
        obtain ⟨ga, oa, haa, hga, a0, a1, a2, a3, hok⟩ := (HA6.out.below hB6r) k ac1 hac1
        subst haa
        have HT1 := Lib.hid ((HT10.out.stw hW hg10 hgb').one ht)
        have ht2 := (HT2.out.stw hW hg2l10 hbg2).one ht
        have HS := Lib.hid hS
        have HW := Lib.hid hW
        have HOK := Lib.hid hok
        have Hti := Lib.hid ht
        obtain ⟨kd, tx, nm, pl⟩ := t
        obtain ⟨ak, an1, atx, ta, tn, tc, txs⟩ := ac1
        obtain ⟨t0, t1, t2, t3⟩ := ht2
        simp only at t0 t1 t2 t3 a0 a1 a2 a3
        have hg2r : g2 < wr.heap.size := by omega
        have hgr : g < wr.heap.size := by omega
        have hL8 : L.length ≤ 8001 := by rw [HL.out]; have := HTs.out.len; simp; omega
        have hbr : b < wr.heap.size := HS.out.lt
        clear hS hW hok ht hac1 hB6r
        obtain ⟨wa, qa, hwa, hqa⟩ : ∃ wa qa, wr.alloc (.cells #[.int .i64 ak, .int .i64 an1, .string atx, .slice ta tn tc] 87) = wa ∧ wr.heap.size = qa := ⟨_, _, rfl, rfl⟩
        have hba : Below wr.heap.size wr wa := by rw [← hwa]; exact (Below.refl _ _).alloc (Nat.le_refl _) _
        have hha : wa.heap[qa]? = some (.cells #[.int .i64 ak, .int .i64 an1, .string atx, .slice ta tn tc] 87 (0, 0)) := by rw [← hwa, ← hqa]; exact heap_new _ _
        have t0a := (hba.cell (p := ⟨g2, _, none⟩) hg2r).trans t0
        have t1a := (hba.cell (p := ⟨g2, _, none⟩) hg2r).trans t1
        have t2a := (hba.cell (p := ⟨g2, _, none⟩) hg2r).trans t2
        have t3a := (hba.cell (p := ⟨g2, _, none⟩) hg2r).trans t3
        obtain ⟨wt, qt, hwt, hqt⟩ : ∃ wt qt, wa.alloc (.cells #[.int .i64 kd, .string tx, .int .i64 nm, .int .i64 pl] 75) = wt ∧ wa.heap.size = qt := ⟨_, _, rfl, rfl⟩
        have hbt : Below wa.heap.size wa wt := by rw [← hwt]; exact (Below.refl _ _).alloc (Nat.le_refl _) _
        have hht : wt.heap[qt]? = some (.cells #[.int .i64 kd, .string tx, .int .i64 nm, .int .i64 pl] 75 (0, 0)) := by rw [← hwt, ← hqt]; exact heap_new _ _
        have y0 : wt.cell? ⟨qt, 0, none⟩ = some (.int .i64 kd) := (Lib.cell_of_heap hht _).trans rfl
        have y3 : wt.cell? ⟨qt, 3, none⟩ = some (.int .i64 pl) := (Lib.cell_of_heap hht _).trans rfl
        obtain ⟨wf, qf, hwf, hqf⟩ : ∃ wf qf, wt.alloc (.cells #[.int .i64 9, .int .i64 pl] 71) = wf ∧ wt.heap.size = qf := ⟨_, _, rfl, rfl⟩
        have hbf : Below wt.heap.size wt wf := by rw [← hwf]; exact (Below.refl _ _).alloc (Nat.le_refl _) _
        have hhf : wf.heap[qf]? = some (.cells #[.int .i64 9, .int .i64 pl] 71 (0, 0)) := by rw [← hwf, ← hqf]; exact heap_new _ _
        have hqal : qa < wa.heap.size := (Array.getElem?_eq_some_iff.1 hha).1
        have hqtl : qt < wt.heap.size := (Array.getElem?_eq_some_iff.1 hht).1
        have HHA := Lib.hid ((hbf.block qa (by have := hbt.size; omega)).trans ((hbt.block qa hqal).trans hha))
        have HHT := Lib.hid ((hbf.block qt hqtl).trans hht)
        have HHF := Lib.hid hhf
        have HBF := Lib.hid ((hba.trans (hbt.mono hba.size)).trans (hbf.mono (by have := hba.size; have := hbt.size; omega)))
        have hqab : qa ≠ b := by omega
        have hqtb : qt ≠ b := by have := hba.size; omega
        have hqfb : qf ≠ b := by have := hba.size; have := hbt.size; omega
        clear hba hha hbt hht hbf hhf
        obtain ⟨mv, hmv⟩ : ∃ mv : Nat, mvOf kd = mv := ⟨_, rfl⟩
        have Hmv := Lib.hid hmv
        clear hmv
        go_upto_region 17 with fail
        clear hwa hqa t0 t1 t2 t3 t0a t1a t2a t3a a0 a1 a2 a3
        go_upto_region 18 with fail
        clear hwt hqt
        obtain ⟨wd, hwd⟩ : ∃ wd, isWM kd = wd := ⟨_, rfl⟩
        have Hwd := Lib.hid hwd
        clear hwd
        go_upto_if 73 with fail
        go_cut [14] (fun s14 wx => s14 = .int .i64 mv ∧ wt = wx)
        case first =>
          by_cases h6 : kd = 6
          · obtain rfl : 0 = mv := by rw [← Hmv.out, h6]; rfl
            subst h6
            go_wp2_with fail
            go_meet
            exact ⟨rfl, rfl⟩
          · obtain rfl : 1 = mv := by rw [← Hmv.out, mv_go h6]
            have e6 : ((kd : Int) == 6) = false := by rw [beq_eq_false_iff_ne]; omega
            clear h6
            go_wp2_with fail
            go_meet
            exact ⟨rfl, rfl⟩
        case rest =>
          obtain ⟨rfl, rfl⟩ := hcut
          go_upto_region 20 with fail
          go_cut [15] (fun s15 wx => s15 = .bool wd ∧ wt = wx)
          case first =>
            by_cases h2 : kd = 2
            · obtain rfl : true = wd := by rw [← Hwd.out]; simp [isWM, h2]
              subst h2
              go_wp2_with fail
              go_meet
              exact ⟨rfl, rfl⟩
            · have e2 : ((kd : Int) == 2) = false := by rw [beq_eq_false_iff_ne]; omega
              by_cases h5 : kd = 5
              · obtain rfl : true = wd := by rw [← Hwd.out]; simp [isWM, h5]
                subst h5
                clear h2
                go_wp2_with fail
                go_meet
                exact ⟨rfl, rfl⟩
              · have e5 : ((kd : Int) == 5) = false := by rw [beq_eq_false_iff_ne]; omega
                obtain rfl : false = wd := by rw [← Hwd.out]; simp [isWM]; omega
                clear h2 h5
                go_wp2_with fail
                go_meet
                exact ⟨rfl, rfl⟩
          case rest =>
            obtain ⟨rfl, rfl⟩ := hcut
            go_upto_region 22 with fail
            clear hwf hqf y0 y3
            have HSF := Lib.hid (HS.out.below HBF.out)
            have HTF := Lib.hid (HT1.out.below HBF.out hgr)
            have hqtf : qt < wf.heap.size := (Array.getElem?_eq_some_iff.1 HHT.out).1
            have hgf : g < wf.heap.size := by have := HBF.out.size; omega
            have HPK := Lib.hid (Peeks.of HSF.out (by omega) (by omega) HTF.out hgf)
            have x0 : wf.cell? ⟨qt, 0, none⟩ = some (.int .i64 kd) := (Lib.cell_of_heap HHT.out _).trans rfl
            have x1 : wf.cell? ⟨qt, 1, none⟩ = some (.string tx) := (Lib.cell_of_heap HHT.out _).trans rfl
            have x2 : wf.cell? ⟨qt, 2, none⟩ = some (.int .i64 nm) := (Lib.cell_of_heap HHT.out _).trans rfl
            have x3 : wf.cell? ⟨qt, 3, none⟩ = some (.int .i64 pl) := (Lib.cell_of_heap HHT.out _).trans rfl
            go_cut [88] (fun s88 wx => s88 = .bool false ∧ Below wf.heap.size wf wx)
            case first =>
              go_region_held3 (fun w' => w'.cell? ⟨qt, 0, none⟩ = some (.int .i64 kd) ∧ w'.cell? ⟨qt, 1, none⟩ = some (.string tx) ∧ w'.cell? ⟨qt, 2, none⟩ = some (.int .i64 nm) ∧ w'.cell? ⟨qt, 3, none⟩ = some (.int .i64 pl)) (first | go_keep | exact ⟨(hb5.cell (p := ⟨qt, 0, none⟩) hqtf).trans x0, (hb5.cell (p := ⟨qt, 1, none⟩) hqtf).trans x1, (hb5.cell (p := ⟨qt, 2, none⟩) hqtf).trans x2, (hb5.cell (p := ⟨qt, 3, none⟩) hqtf).trans x3⟩) (first | (go_at_call 31; refine (HPK.out _ (Below.drew (Below.refl _ _))).mono ?_; rintro e w5 ⟨rfl, hb5d⟩; have hb5 : Below wf.heap.size wf w5 := Below.trans (Below.drew (Below.refl _ _)) hb5d; clear hb5d))
              all_goals
                go_wp2_with fail
                go_meet
                exact ⟨by simp, hb5⟩
            case rest =>
              obtain ⟨rfl, hbx⟩ := hcut
              have HSX := Lib.hid (HSF.out.below hbx)
              have HTX := Lib.hid (HTF.out.below hbx hgf)
              have HOX := Lib.hid (HOK.out.texts.below (HBF.out.trans (hbx.mono HBF.out.size)))
              have hqaf : qa < wf.heap.size := (Array.getElem?_eq_some_iff.1 HHA.out).1
              have hqff : qf < wf.heap.size := (Array.getElem?_eq_some_iff.1 HHF.out).1
              have HAX := Lib.hid ((hbx.block qa hqaf).trans HHA.out)
              have HTY := Lib.hid ((hbx.block qt hqtf).trans HHT.out)
              have HFX := Lib.hid ((hbx.block qf hqff).trans HHF.out)
              have HBX := Lib.hid (HBF.out.trans (hbx.mono HBF.out.size))
              have HPX := Lib.hid (HPK.out.below hbx)
              have hgx : g < wc.heap.size := by have := hbx.size; omega
              have a0x : wc.cell? ⟨qa, 0, none⟩ = some (.int .i64 ak) := (Lib.cell_of_heap HAX.out _).trans rfl
              clear hbx x0 x1 x2 x3
              have x0 : wc.cell? ⟨qt, 0, none⟩ = some (.int .i64 kd) := (Lib.cell_of_heap HTY.out _).trans rfl
              have x1 : wc.cell? ⟨qt, 1, none⟩ = some (.string tx) := (Lib.cell_of_heap HTY.out _).trans rfl
              have x2 : wc.cell? ⟨qt, 2, none⟩ = some (.int .i64 nm) := (Lib.cell_of_heap HTY.out _).trans rfl
              have x3 : wc.cell? ⟨qt, 3, none⟩ = some (.int .i64 pl) := (Lib.cell_of_heap HTY.out _).trans rfl
              have hqtx : qt < wc.heap.size := (Array.getElem?_eq_some_iff.1 HTY.out).1
              have hqax : qa < wc.heap.size := (Array.getElem?_eq_some_iff.1 HAX.out).1
              have hqfx : qf < wc.heap.size := (Array.getElem?_eq_some_iff.1 HFX.out).1
              have hbX : b < wc.heap.size := StrAt.lt HSX.out
              have HLT : Hid (kd ≠ 6 → i + 1 < L.length) := Lib.hid (fun h6 => tok_next HL.out Hti.out h6)
              have him : i + mv < L.length := by
                rw [← Hmv.out]
                by_cases h6 : kd = 6
                · rw [h6]; exact hi
                · rw [mv_go h6]; exact HLT.out h6
              have hmv1 : mv ≤ 1 := by rw [← Hmv.out]; exact mv_le kd
              go_upto_block 2 with fail
              go_cut [10] (fun s10 wx => ∃ i2 : Nat, i2 < L.length ∧ s10 = .int .i64 i2 ∧ StrI b g cap L.length i2 wx ∧ StW b wc wx)
              case first =>
                by_cases h1 : ak = 1
                · subst h1
                  have HNX : Hid (∀ W, Below wc.heap.size wc W → Calls Tryd.prog 32 #[.pointer (some ⟨b, 0, none⟩)] W fun e w' => e = .returned (.agg #[.int .i64 kd, .string tx, .int .i64 nm, .int .i64 pl]) ∧ StrI b g cap L.length (i + mv) w' ∧ StW b W w') := Lib.hid (by
                    intro W hW
                    rw [← Hmv.out]
                    exact next_mv b g cap L.length i kd nm pl tx W (StrAt.below HSX.out hW) hi hcap (HTX.out.below hW hgx) (by have := hW.size; omega) HLT.out)
                  go_upto_region 26 with fail
                  go_region_held3 (fun w' => w'.cell? ⟨qt, 0, none⟩ = some (.int .i64 kd) ∧ w'.cell? ⟨qt, 1, none⟩ = some (.string tx) ∧ w'.cell? ⟨qt, 2, none⟩ = some (.int .i64 nm) ∧ w'.cell? ⟨qt, 3, none⟩ = some (.int .i64 pl)) (first | go_keep | exact ⟨(hw5.cell hqtx hqtb).trans x0, (hw5.cell hqtx hqtb).trans x1, (hw5.cell hqtx hqtb).trans x2, (hw5.cell hqtx hqtb).trans x3⟩) (first | (go_at_call 32; refine (HNX.out _ (Below.drew (Below.refl _ _))).mono ?_; rintro e w5 ⟨rfl, hs5, hw5d⟩; have hw5 : StW b wc w5 := StW.trans (StW.of (Below.drew (Below.refl _ _)) (by omega)) hw5d; clear hw5d))
                  all_goals
                    go_wp2_with fail
                    go_meet
                    exact ⟨i + mv, him, by go_num, hs5, hw5⟩
                · have e1 : ((ak : Int) == 1) = false := by rw [beq_eq_false_iff_ne]; exact h1
                  clear h1
                  by_cases h2 : ak = 2
                  · subst h2
                    obtain ⟨mt, hmt⟩ : ∃ mt, (wd && memTx txs tx) = mt := ⟨_, rfl⟩
                    have HMT := Lib.hid hmt
                    have HTL : Hid (txs.length = tn) := Lib.hid HOK.out.len
                    have hbg : tn * 16 ≤ 140737488355328 := HOK.out.big
                    have z3 : wc.cell? ⟨qa, 3, none⟩ = some (.slice ta tn tc) := (Lib.cell_of_heap HAX.out _).trans rfl
                    have HIS : Hid (∀ W v n, Below wc.heap.size wc W → W.ownsRow wc.heap.size 9 1 v n (txCells txs) → Calls Tryd.prog 33 #[.pointer (some ⟨b, 0, none⟩), v] W fun e w' => e = .returned (.bool mt) ∧ Below W.heap.size W w') := Lib.hid (by
                      intro W v n hW hown
                      rw [← hmt, ← Hwd.out]
                      exact is_at b v kd nm pl tx (memTx txs tx) W (HPX.out.below hW) (contains_row tx W hown))
                    clear hmt
                    go_wp2_with fail
                    go_loopw [17, 105] (fun v ix wr' => ∃ (j : Nat) (kb : Bool), j ≤ tn ∧ ix = .int .i64 j ∧ v = .bool kb ∧ (wd && anyTx txs tx j) = kb ∧ wc = wr') (fun _ ix _ => tn - (intOf ix).toNat)
                    case atStart => exact ⟨0, false, by omega, rfl, rfl, by rw [anyTx_zero]; simp, rfl⟩
                    case round =>
                      obtain ⟨j, kb, hj, rfl, rfl, hkb, rfl⟩ := hrel
                      have HKB := Lib.hid hkb
                      clear hkb
                      by_cases hlt : j < tn
                      · obtain ⟨x, hx⟩ : ∃ x, txs[j]? = some x := ⟨_, List.getElem?_eq_getElem (by rw [HTL.out]; exact hlt)⟩
                        obtain ⟨gt, ot, hta, hgt, hcx⟩ := HOX.out j x hx
                        have HS1 := Lib.hid (anyTx_succ (tx := tx) hx)
                        have hta' : ta = some ⟨gt, ot, none⟩ := hta
                        clear hta
                        subst hta'
                        clear hx
                        cases wd
                        · cases kb
                          · go_wp2_with fail
                            go_roundw
                            case rel => exact ⟨j + 1, false, by omega, by go_num, rfl, rfl, by first | rfl | trivial⟩
                            case measure => simp [intOf]; omega
                          · exact absurd HKB.out (by simp)
                        · cases kb
                          · by_cases hxt : x = tx
                            · subst hxt
                              go_wp2_with fail
                              go_roundw
                              case rel => exact ⟨j + 1, true, by omega, by go_num, rfl, by rw [HS1.out]; simp, by first | rfl | trivial⟩
                              case measure => simp [intOf]; omega
                            · have hne := toList_ne (fun h => hxt (ba_ext h))
                              have HXT := Lib.hid hxt
                              clear hxt
                              go_wp2_with fail
                              go_roundw
                              case rel => exact ⟨j + 1, false, by omega, by go_num, rfl, by rw [HS1.out]; have := HKB.out; simp at this; simp [this, HXT.out], by first | rfl | trivial⟩
                              case measure => simp [intOf]; omega
                          · go_wp2_with fail
                            go_roundw
                            case rel => exact ⟨j + 1, true, by omega, by go_num, rfl, by rw [HS1.out]; have := HKB.out; simp at this; simp [this], by first | rfl | trivial⟩
                            case measure => simp [intOf]; omega
                      · obtain rfl : j = tn := by omega
                        obtain rfl : mt = kb := by rw [← HMT.out, ← HKB.out, anyTx_all HTL.out]
                        obtain ⟨i0, hif, hz0, hz1, hz2⟩ := info_parts info_str
                        have hlit := World.ownsRow_made (e := 9) (size := 1) (base := wc.heap.size) wc #[] 0 (Nat.le_refl _) (by decide) rfl
                        have hb0 : Below wc.heap.size wc (wc.alloc (.cells #[] 9)) := (Below.refl _ _).alloc (Nat.le_refl _) _
                        have HB0 := Lib.hid hb0
                        cases ta with
                        | none =>
                          have htc := HOK.out.nil rfl
                          have hj0 : j = 0 := by have := HOK.out.cap; simp only at this htc; omega
                          simp only at htc
                          obtain rfl := TextsAt.nil_len HOX.out
                          subst htc hj0
                          go_wp2_with (first | (at_builtin; refine wpList_append_own_none rfl (.tmp 121) (.tmp 123) 58 rfl wc.heap.size 9 i0 1 Tryd.underlying58 hif _ 0 _ rfl hlit rfl ?_))
                          refine (HIS.out _ _ _ HB0.out hlit).mono ?_
                          rintro e w10 ⟨rfl, hb10⟩
                          have HB10' := Lib.hid (HB0.out.trans (hb10.mono HB0.out.size))
                          clear hb10 hb0
                          go_wp2_with fail
                          go_meet
                          exact ⟨i, hi, rfl, StrAt.below HSX.out HB10'.out, StW.of HB10'.out (by omega)⟩
                        | some ad =>
                          have hcells : ∀ k u, (txCells txs)[k]? = some u → (wc.alloc (.cells #[] 9)).cell? (ad.add k) = some u := (TextsAt.below HOX.out hb0).cells
                          have hlen : (txCells txs).length = j * 1 := by rw [txCells_len, HTL.out, Nat.mul_one]
                          go_wp2_with (first | (at_builtin; refine wpList_append_own _ rfl (.tmp 121) (.tmp 123) 58 rfl wc.heap.size 9 i0 (.string ⟨#[]⟩) 1 16 Tryd.underlying58 hif hz0 hz1 hz2 rfl (by decide) _ 0 [] rfl hlit ad j tc (txCells txs) rfl hlen hcells (txCells_one _) (by unfold maxLen; omega) (by omega) (by rw [World.size_alloc]; omega) ?_; intro v' w9 hown9 hgrow _; have hbel9 := Lib.hid (below_grow HB0.out (by rw [World.size_alloc]; omega) hlit hgrow); clear hgrow))
                          refine (HIS.out _ _ _ hbel9.out hown9).mono ?_
                          rintro e w10 ⟨rfl, hb10⟩
                          have HB10' := Lib.hid (hbel9.out.trans (hb10.mono hbel9.out.size))
                          clear hb10 hb0 hown9
                          go_wp2_with fail
                          go_meet
                          exact ⟨i, hi, rfl, StrAt.below HSX.out HB10'.out, StW.of HB10'.out (by omega)⟩
                  · have e2 : ((ak : Int) == 2) = false := by rw [beq_eq_false_iff_ne]; exact h2
                    clear h2
                    by_cases h3 : ak = 3
                    · subst h3
                      have z2 : wc.cell? ⟨qa, 2, none⟩ = some (.string atx) := (Lib.cell_of_heap HAX.out _).trans rfl
                      obtain ⟨ok, hok⟩ : ∃ ok, (wd && decide (tx = atx)) = ok := ⟨_, rfl⟩
                      cases ok
                      · have HTK : Hid (Calls Tryd.prog 36 #[.pointer (some ⟨b, 0, none⟩), .string atx] wc fun e w' => e = .returned (faultV 9 pl) ∧ StrI b g cap L.length i w' ∧ StW b wc w') := Lib.hid (take_st b g cap L.length i kd nm pl tx atx wc HSX.out HPX.out (by rw [Hwd.out]; exact hok))
                        have q0 : wc.cell? ⟨qf, 0, none⟩ = some (.int .i64 9) := (Lib.cell_of_heap HFX.out _).trans rfl
                        have q1 : wc.cell? ⟨qf, 1, none⟩ = some (.int .i64 pl) := (Lib.cell_of_heap HFX.out _).trans rfl
                        have hne : wd = false ∨ (wd = true ∧ ¬ atx = tx) := by
                          cases wd with
                          | false => exact Or.inl rfl
                          | true => exact Or.inr ⟨rfl, fun h => by rw [h] at hok; simp at hok⟩
                        clear hok
                        go_wp2_with fail
                        refine HTK.out.mono ?_
                        rintro e w5 ⟨rfl, hs5, hw5⟩
                        have y1 := (hw5.cell hqtx hqtb).trans x1
                        have y2 := (hw5.cell hqax hqab).trans z2
                        have y3 := (hw5.cell hqfx hqfb).trans q0
                        have y4 := (hw5.cell hqfx hqfb).trans q1
                        have hs5w := hw5.below.size
                        have hqt5 : qt < w5.heap.size := by have := cell_lt y1; exact this
                        have hqa5 : qa < w5.heap.size := by have := cell_lt y2; exact this
                        have hqf5 : qf < w5.heap.size := by have := cell_lt y3; exact this
                        have HS5 := Lib.hid hs5
                        have HW5 := Lib.hid hw5
                        clear hs5 hw5
                        rcases hne with rfl | ⟨rfl, hne⟩
                        · go_wp2_with fail
                          go_meet
                          exact ⟨i, hi, rfl, StrAt.below HS5.out ((Below.refl _ _).alloc (Nat.le_refl _) _), HW5.out.trans (StW.of ((Below.refl _ _).alloc (Nat.le_refl _) _) (by omega))⟩
                        · have hne' := toList_ne (fun h => hne (ba_ext h))
                          clear hne
                          go_wp2_with fail
                          go_meet
                          exact ⟨i, hi, rfl, StrAt.below HS5.out ((Below.refl _ _).alloc (Nat.le_refl _) _), HW5.out.trans (StW.of ((Below.refl _ _).alloc (Nat.le_refl _) _) (by omega))⟩
                      · have hwd1 : wd = true := by
                          cases wd with
                          | true => rfl
                          | false => simp at hok
                        have htx1 : tx = atx := by subst hwd1; simpa using hok
                        subst hwd1 htx1
                        have HTK : Hid (Calls Tryd.prog 36 #[.pointer (some ⟨b, 0, none⟩), .string tx] wc fun e w' => e = .returned (faultV 0 0) ∧ StrI b g cap L.length (i + mv) w' ∧ StW b wc w') := Lib.hid (by
                          have := take_mv b g cap L.length i kd nm pl tx tx wc HSX.out hi hcap HTX.out hgx HLT.out Hwd.out rfl
                          rwa [Hmv.out] at this)
                        clear hok
                        go_wp2_with fail
                        refine HTK.out.mono ?_
                        rintro e w5 ⟨rfl, hs5, hw5⟩
                        have y1 := (hw5.cell hqtx hqtb).trans x1
                        have y2 := (hw5.cell hqax hqab).trans z2
                        have hs5w := hw5.below.size
                        have hqt5 : qt < w5.heap.size := by have := cell_lt y1; exact this
                        have hqa5 : qa < w5.heap.size := by have := cell_lt y2; exact this
                        have HS5 := Lib.hid hs5
                        have HW5 := Lib.hid hw5
                        clear hs5 hw5
                        go_wp2_with fail
                        go_meet
                        exact ⟨i + mv, him, by go_num, StrAt.below HS5.out ((Below.refl _ _).alloc (Nat.le_refl _) _), HW5.out.trans (StW.of ((Below.refl _ _).alloc (Nat.le_refl _) _) (by omega))⟩
                    · have e3 : ((ak : Int) == 3) = false := by rw [beq_eq_false_iff_ne]; exact h3
                      clear h3
                      by_cases h4 : ak = 4
                      · subst h4
                        have z1 : wc.cell? ⟨qa, 1, none⟩ = some (.int .i64 an1) := (Lib.cell_of_heap HAX.out _).trans rfl
                        have q0 : wc.cell? ⟨qf, 0, none⟩ = some (.int .i64 9) := (Lib.cell_of_heap HFX.out _).trans rfl
                        have q1 : wc.cell? ⟨qf, 1, none⟩ = some (.int .i64 pl) := (Lib.cell_of_heap HFX.out _).trans rfl
                        by_cases hkq : (kd : Int) = an1
                        · subst hkq
                          have HTK : Hid (Calls Tryd.prog 37 #[.pointer (some ⟨b, 0, none⟩), .int .i64 kd] wc fun e w' => e = .returned (.tuple #[.agg #[.int .i64 kd, .string tx, .int .i64 nm, .int .i64 pl], faultV 0 0]) ∧ StrI b g cap L.length (i + mv) w' ∧ StW b wc w') := Lib.hid (by
                            have := want_mv b g cap L.length i kd nm pl tx kd wc HSX.out hi hcap HTX.out hgx HLT.out rfl
                            rwa [Hmv.out] at this)
                          go_wp2_with fail
                          refine HTK.out.mono ?_
                          rintro e w5 ⟨rfl, hs5, hw5⟩
                          have y0 := (hw5.cell hqtx hqtb).trans x0
                          have y1 := (hw5.cell hqtx hqtb).trans x1
                          have y2 := (hw5.cell hqtx hqtb).trans x2
                          have y3 := (hw5.cell hqtx hqtb).trans x3
                          have y4 := (hw5.cell hqax hqab).trans z1
                          have hs5w := hw5.below.size
                          have hqt5 : qt < w5.heap.size := by have := cell_lt y1; exact this
                          have hqa5 : qa < w5.heap.size := by have := cell_lt y4; exact this
                          have HS5 := Lib.hid hs5
                          have HW5 := Lib.hid hw5
                          clear hs5 hw5
                          go_wp2_with fail
                          go_meet
                          exact ⟨i + mv, him, by go_num, StrAt.below HS5.out (((Below.refl _ _).alloc (Nat.le_refl _) _).alloc (by rw [World.size_alloc]; omega) _), HW5.out.trans (StW.of (((Below.refl _ _).alloc (Nat.le_refl _) _).alloc (by rw [World.size_alloc]; omega) _) (by omega))⟩
                        · have HTK : Hid (Calls Tryd.prog 37 #[.pointer (some ⟨b, 0, none⟩), .int .i64 an1] wc fun e w' => e = .returned (.tuple #[.agg #[.int .i64 0, .string ⟨#[]⟩, .int .i64 0, .int .i64 0], faultV 9 pl]) ∧ StrI b g cap L.length i w' ∧ StW b wc w') := Lib.hid (want_st b g cap L.length i kd nm pl tx an1 wc HSX.out HPX.out hkq)
                          have ekq : ((an1 : Int) == (kd : Int)) = false := by rw [beq_eq_false_iff_ne]; exact fun h => hkq h.symm
                          clear hkq
                          go_wp2_with fail
                          refine HTK.out.mono ?_
                          rintro e w5 ⟨rfl, hs5, hw5⟩
                          have y0 := (hw5.cell hqtx hqtb).trans x0
                          have y4 := (hw5.cell hqax hqab).trans z1
                          have y5 := (hw5.cell hqfx hqfb).trans q0
                          have y6 := (hw5.cell hqfx hqfb).trans q1
                          have hs5w := hw5.below.size
                          have hqt5 : qt < w5.heap.size := by have := cell_lt y0; exact this
                          have hqa5 : qa < w5.heap.size := by have := cell_lt y4; exact this
                          have hqf5 : qf < w5.heap.size := by have := cell_lt y5; exact this
                          have HS5 := Lib.hid hs5
                          have HW5 := Lib.hid hw5
                          clear hs5 hw5
                          go_wp2_with fail
                          go_meet
                          exact ⟨i, hi, rfl, StrAt.below HS5.out (((Below.refl _ _).alloc (Nat.le_refl _) _).alloc (by rw [World.size_alloc]; omega) _), HW5.out.trans (StW.of (((Below.refl _ _).alloc (Nat.le_refl _) _).alloc (by rw [World.size_alloc]; omega) _) (by omega))⟩
                      · have e4 : ((ak : Int) == 4) = false := by rw [beq_eq_false_iff_ne]; exact h4
                        clear h4
                        go_wp2_with fail
                        go_meet
                        exact ⟨i, hi, rfl, HSX.out, StW.refl' b _ (by omega)⟩
              case rest =>
                obtain ⟨i2, hi2, rfl, hs5, hw5⟩ := hcut
                have hwt5 : StW b w10 wc := HW.out.trans ((StW.of HBX.out (by omega)).trans hw5)
                obtain ⟨t5, ht5⟩ : ∃ t, L[i2]? = some t := ⟨_, List.getElem?_eq_getElem hi2⟩
                have hT5 := (HT10.out.stw hwt5 hg10 hgb').one ht5
                have ht25 := (HT2.out.stw hwt5 hg2l10 hbg2).one ht5
                obtain ⟨kd5, tx5, nm5, pl5⟩ := t5
                obtain ⟨t0, t1, t2, t3⟩ := ht25
                simp only at t0 t1 t2 t3
                have hgc : g < wc.heap.size := by have := hwt5.below.size; have := StrAt.lt hs5; omega
                have hg2c : g2 < wc.heap.size := cell_lt t0
                have HPK5 := Lib.hid (Peeks.of hs5 (by omega) (by omega) hT5 hgc)
                have HS5 := Lib.hid hs5
                have HW5 := Lib.hid hwt5
                have hbc : b ≤ wc.heap.size := by have := StrAt.lt hs5; omega
                have hI1 : (0 : Int) ≤ (i2 : Int) := by omega
                have hI2 : (i2 : Int) < (L.length : Int) := by omega
                clear hs5 hw5 hwt5 ht5 hT5
                go_upto_region 54 with fail
                go_region_held3 (fun w' => w'.cell? ⟨g2, i2 * 4, none⟩ = some (.int .i64 kd5) ∧ w'.cell? ⟨g2, i2 * 4 + 1, none⟩ = some (.string tx5) ∧ w'.cell? ⟨g2, i2 * 4 + 2, none⟩ = some (.int .i64 nm5) ∧ w'.cell? ⟨g2, i2 * 4 + 3, none⟩ = some (.int .i64 pl5)) (first | go_keep | exact ⟨(hb5.cell (p := ⟨g2, _, none⟩) hg2c).trans t0, (hb5.cell (p := ⟨g2, _, none⟩) hg2c).trans t1, (hb5.cell (p := ⟨g2, _, none⟩) hg2c).trans t2, (hb5.cell (p := ⟨g2, _, none⟩) hg2c).trans t3⟩) (first | (go_at_call 31; refine (HPK5.out _ (Below.drew (Below.refl _ _))).mono ?_; rintro e w5 ⟨rfl, hb5d⟩; have hb5 : Below wc.heap.size wc w5 := Below.trans (Below.drew (Below.refl _ _)) hb5d; clear hb5d))
                all_goals
                  go_wp2_with fail
                  go_roundw
                  case rel => exact ⟨i2, k + 1, by omega, hi2, rfl, by go_num, StrAt.below HS5.out hb5, HW5.out.trans (StW.of hb5 hbc)⟩
                  case measure => simp [intOf]; omega
      · go_wp2_with fail
        go_ret
        exact ⟨rfl, HB10.out.trans (hW.below.mono hwb)⟩
end Go.Proofs.YtaijdpckkobofaaDoor
