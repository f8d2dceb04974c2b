/- LexPlaces, walked. -/
import Derived.Test.YtaijdpckkobofaaDoorLaw21b
namespace Go.Proofs.YtaijdpckkobofaaDoor
open Go.RowKit
set_option linter.unusedVariables false

theorem scanAll_fault {s : ByteArray} {x a : Nat} (h : scanAll s = .inl (x, a)) : (x = 2 ∧ a = 0 ∧ 8000 < s.size) ∨ (x = 9 ∧ a ≤ s.size ∧ s.size ≤ 8000) := by
  unfold scanAll at h
  split at h
  · simp only [Sum.inl.injEq, Prod.mk.injEq] at h; omega
  · split at h
    · rename_i hf
      simp only [Sum.inl.injEq, Prod.mk.injEq] at h
      have := scanFrom_faults _ _ _ _ _ (Nat.le_refl _) (by omega) hf
      omega
    · cases h
theorem scanAll_toks {s : ByteArray} {L : List Tok} (h : scanAll s = .inr L) : s.size ≤ 8000 ∧ ∃ l0, L = l0 ++ [⟨6, ⟨#[]⟩, 0, s.size⟩] ∧ Toks s s.size l0 := by
  unfold scanAll at h
  split at h
  · cases h
  · split at h
    · cases h
    · rename_i hf
      simp only [Sum.inr.injEq] at h
      subst h
      exact ⟨by omega, scanFrom_good _ _ _ _ _ (Nat.le_refl _) (by omega) (Toks.nil s) hf⟩

/-- the next token stands behind z -/
def Behind (l : List Tok) (k : Nat) (z : Int) : Prop := ∀ t, l[k]? = some t → z < t.at_

set_option maxRecDepth 100000 in
set_option maxHeartbeats 4000000 in
theorem lexPlaces_walk (s : ByteArray) (w : World) (hg : LexW w) :
    Calls Tryd.prog 6 #[.string s] w fun e w' => e = .returned (.bool true) ∧ Below w.heap.size w w' := by
  go_enter Tryd.func6, Tryd.ntmps6
  go_wp2_with fail
  refine (awake21 w hg).mono ?_
  rintro e w1 ⟨rfl, hb1⟩
  have hg1 := hg.below hb1
  have hs1 := hb1.size
  have HB1 := Lib.hid hb1
  clear hb1 hg
  go_wp2_with fail
  refine (scan_any s w1 hg1).mono ?_
  rintro e w2 ho
  clear hg1
  cases hres : scanAll s with
  | inl p =>
    obtain ⟨x, a⟩ := p
    rw [hres] at ho
    obtain ⟨hb2, rfl⟩ := ho
    have HB2 := Lib.hid (HB1.out.trans (hb2.mono hs1))
    have hs2 := hb2.size
    have hcase := scanAll_fault hres
    clear hres hb2
    rcases hcase with ⟨rfl, rfl, h8⟩ | ⟨rfl, ha, h8⟩
    · go_wp2_with fail
      go_ret
      exact ⟨rfl, HB2.out.alloc (by omega) _⟩
    · have hd8 : decide ((s.size : Int) ≤ 8000) = true := by simp; omega
      go_wp2_with fail
      go_ret
      exact ⟨rfl, HB2.out.alloc (by omega) _⟩
  | inr L =>
    rw [hres] at ho
    obtain ⟨hb2, v, rfl, hown⟩ := ho
    obtain ⟨h8, l0, rfl, hT⟩ := scanAll_toks hres
    obtain ⟨g, cap, hv, hgB, hgl, htok, hcap⟩ := TokAt_own hown (by simp)
    have hcap' : l0.length + 1 ≤ cap := by simpa using hcap
    clear hcap
    have hlen : (l0 ++ [(⟨6, ⟨#[]⟩, 0, s.size⟩ : Tok)]).length = l0.length + 1 := by simp
    rw [hlen] at hv
    subst hv
    have hs2 := hb2.size
    have HB2 := Lib.hid (HB1.out.trans (hb2.mono hs1))
    have htl := hT.len
    have HT := Lib.hid htok
    have HTs := Lib.hid hT
    clear hres hb2 hown htok hT hlen
    obtain ⟨w3, hw3⟩ : ∃ w3, w2.alloc (.cells #[.int .i64 0, .int .i64 0] 71) = w3 := ⟨_, rfl⟩
    have hb3 : Below w2.heap.size w2 w3 := by rw [← hw3]; exact (Below.refl _ _).alloc (Nat.le_refl _) _
    have hh3 : w3.heap[w2.heap.size]? = some (.cells #[.int .i64 0, .int .i64 0] 71 (0, 0)) := by rw [← hw3]; exact heap_new _ _
    have HT3 := Lib.hid (HT.out.below hb3 hgl)
    have HB3 := Lib.hid (HB2.out.trans (hb3.mono (by omega)))
    have hg3 : g < w3.heap.size := by have := hb3.size; omega
    obtain ⟨q, hq⟩ : ∃ q, w2.heap.size = q := ⟨_, rfl⟩
    rw [hq] at hh3
    have k0 : w3.cell? ⟨q, 0, none⟩ = some (.int .i64 0) := by rw [Lib.cell_of_heap hh3]; rfl
    have k1 : w3.cell? ⟨q, 1, none⟩ = some (.int .i64 0) := by rw [Lib.cell_of_heap hh3]; rfl
    obtain ⟨a0, a1, a2, a3⟩ := HT3.out.at0 (k := l0.length) (t := ⟨6, ⟨#[]⟩, 0, s.size⟩) (by simp)
    simp only at a0 a1 a2 a3
    have Hw3 := Lib.hid hw3
    have Hq := Lib.hid hq
    clear hb3 hh3 hw3 hq
    go_upto_region 6 with fail
    rw [Hw3.out, Hq.out]
    clear Hw3 Hq k0
    go_wp2_with fail
    clear a0 a1 a2 a3 k1
    go_loopw [5, 84] (fun last idx wr => ∃ (k : Nat) (z : Int), k ≤ l0.length ∧ idx = .int .i64 k ∧ last = .int .i64 z ∧ -1 ≤ z ∧ z ≤ 8000 ∧ Behind l0 k z ∧ Below w3.heap.size w3 wr) (fun _ idx _ => l0.length - (intOf idx).toNat)
    case atStart => exact ⟨0, -1, Nat.zero_le _, rfl, rfl, by omega, by omega, fun t _ => by omega, Below.refl _ _⟩
    case round =>
      obtain ⟨k, z, hk, rfl, rfl, hz1, hz2, hbe, hb⟩ := hrel
      have HB := Lib.hid hb
      have Hbe := Lib.hid hbe
      clear hbe
      by_cases hlt : k < l0.length
      · obtain ⟨t, ht⟩ : ∃ t, l0[k]? = some t := ⟨_, List.getElem?_eq_getElem hlt⟩
        have hgood := (HTs.out.good t (List.mem_of_getElem? ht)).1
        have hzt := Hbe.out t ht
        have HN : Hid (Behind l0 (k + 1) t.at_) := Lib.hid fun t' ht' => by have := HTs.out.ord k t t' ht ht'; omega
        have hgr : g < wr.heap.size := by have := hb.size; omega
        obtain ⟨b0, b1, b2, b3⟩ := (HT3.out.below hb hg3).at0 (k := k) (t := t) (by rw [List.getElem?_append_left hlt]; exact ht)
        obtain ⟨hat, hk1, hk5, hnum, hqt, htx, htz⟩ := hgood
        obtain ⟨kd, tx, nm, pl⟩ := t
        simp only at b0 b1 b2 b3 hat hk1 hk5 hnum hqt htx htz hzt HN
        clear hb ht
        obtain ⟨w5, hw5⟩ : ∃ w5, wr.alloc (.cells #[.int .i64 kd, .string tx, .int .i64 nm, .int .i64 pl] 75) = w5 := ⟨_, rfl⟩
        have hb5 : Below wr.heap.size wr w5 := by rw [← hw5]; exact (Below.refl _ _).alloc (Nat.le_refl _) _
        have hh5 : w5.heap[wr.heap.size]? = some (.cells #[.int .i64 kd, .string tx, .int .i64 nm, .int .i64 pl] 75 (0, 0)) := by rw [← hw5]; exact heap_new _ _
        have HB5 := Lib.hid (HB.out.trans (hb5.mono HB.out.size))
        obtain ⟨q5, hq5⟩ : ∃ q5, wr.heap.size = q5 := ⟨_, rfl⟩
        rw [hq5] at hh5
        have c0 : w5.cell? ⟨q5, 0, none⟩ = some (.int .i64 kd) := by rw [Lib.cell_of_heap hh5]; rfl
        have c1 : w5.cell? ⟨q5, 1, none⟩ = some (.string tx) := by rw [Lib.cell_of_heap hh5]; rfl
        have c3 : w5.cell? ⟨q5, 3, none⟩ = some (.int .i64 pl) := by rw [Lib.cell_of_heap hh5]; rfl
        have Hw5 := Lib.hid hw5
        have Hq5 := Lib.hid hq5
        have hpl0 : (0 : Int) ≤ (pl : Int) := by omega
        have hpls : (pl : Int) < (s.size : Int) := by omega
        clear hb5 hh5 hw5 hq5
        go_upto_region 12 with fail
        rw [Hw5.out, Hq5.out]
        clear b0 b1 b2 b3 Hw5 Hq5
        by_cases h4 : kd = 4
        · obtain ⟨u, hu, hbu, hu8⟩ := byteAt_some hat
          obtain rfl : u = 34 := by rw [← hbu]; exact hqt h4
          subst h4
          clear hbu hqt htx
          go_wp2_with fail
          go_roundw
          case rel => ((repeat apply Exists.intro); exact ⟨⟨k + 1, pl, by omega, by go_num, rfl, by omega, by omega, HN.out, HB5.out⟩, rfl⟩)
          case measure => simp [intOf]; omega
        · obtain ⟨ht1, ht2⟩ := htx h4
          have hne : ((kd : Int) == 4) = false := by rw [beq_eq_false_iff_ne]; omega
          have hd1 : decide ((s.size : Int) - (pl : Int) < (tx.size : Int)) = false := by simp; omega
          have hle1 : (pl : Int) ≤ (pl : Int) + (tx.size : Int) := by omega
          have hle2 : (pl : Int) + (tx.size : Int) ≤ (s.size : Int) := by omega
          clear hqt htx h4
          go_wp2_with fail
          go_quiet (fail)
          go_wp2_with fail
          go_roundw
          case rel => ((repeat apply Exists.intro); exact ⟨⟨k + 1, pl, by omega, by go_num, rfl, by omega, by omega, HN.out, below_drewN HB5.out _⟩, rfl⟩)
          case measure => simp [intOf]; omega
      · go_wp2_with fail
        go_ret
        exact ⟨rfl, HB3.out.trans (hb.mono HB3.out.size)⟩
end Go.Proofs.YtaijdpckkobofaaDoor
