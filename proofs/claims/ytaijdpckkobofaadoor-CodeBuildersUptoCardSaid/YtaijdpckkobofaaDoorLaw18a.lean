/- shallotlaw18.awake, and CodeLines walked. -/
import Derived.Test.YtaijdpckkobofaaDoorLines
import Derived.Test.YtaijdpckkobofaaDoorAwake18
namespace Go.Proofs.YtaijdpckkobofaaDoor
open Go.RowKit
set_option linter.unusedVariables false

theorem lines_empty (la : Option Addr) (cap : Nat) (w : World) :
    Calls Tryd.prog 20 #[.agg #[.slice la 0 cap, .slice none 0 0, .slice none 0 0, .slice none 0 0, .int .i64 0, .int .i64 0, .int .i64 0, .int .i64 0]] w fun e w' => e = .returned (.slice none 0 0) ∧ Below w.heap.size w w' := by
  go_enter Tryd.func20, Tryd.ntmps20
  go_wp2_with fail
  refine wp_loop_rounds 1 ?_
  rw [rounds_succ]
  go_wp2_with fail
  go_ret
  exact ⟨rfl, (Below.refl _ _).alloc (Nat.le_refl _) _⟩

def p0ins : List Ins := [⟨1, -1, 0⟩]

theorem own_cells {w : World} {B : Nat} {e : TypeId} {v : Value} {n : Nat} {xs : List Value} (h : w.ownsRow B e 1 v n xs) (h0 : 0 < n) :
    ∃ g cap, v = .slice (some ⟨g, 0, none⟩) n cap ∧ n ≤ cap ∧ cap ≤ maxLen ∧ B ≤ g ∧ g < w.heap.size ∧ ∀ (j : Nat) u, xs[j]? = some u → w.cell? ⟨g, j, none⟩ = some u := by
  have hh := h
  rcases hh.2 with ⟨_, h1⟩ | ⟨g, cap, cur, rfl, hg, hb, hnc, hcm, hcs, htk⟩
  · omega
  · refine ⟨g, cap, rfl, hnc, hcm, hg, ?_, ?_⟩
    · rcases Nat.lt_or_ge g w.heap.size with h' | h'
      · exact h'
      · rw [Array.getElem?_eq_none h'] at hb; cases hb
    · intro j u hj
      have := h.cells (g := g) rfl j u hj
      rwa [add_plain, Nat.zero_add] at this

theorem enc0_0 : enc0[0]? = some (.int .u8 115) := by kernel_rfl
theorem enc0_5 : enc0[5]? = some (.int .u8 1) := by kernel_rfl
theorem enc0_22 : enc0[22]? = some (.int .u8 1) := by kernel_rfl
theorem enc0_26 : enc0[26]? = some (.int .u8 255) := by kernel_rfl
theorem p0line : Ins.line ⟨1, -1, 0⟩ = .string ⟨#[112, 117, 115, 104, 32, 45, 49]⟩ := by
  have h1 : Lib.itoa (-1) = [45, 49] := by
    have := Lib.itoa_neg 1 (by omega)
    rw [Lib.decDigits] at this
    simpa using this
  show Value.string ⟨(lineOf 1 (-1) 0).toArray⟩ = _
  have h2 : lineOf 1 (-1) 0 = [112, 117, 115, 104, 32, 45, 49] := by
    rw [lineOf, h1]
    rfl
  rw [h2]

set_option maxRecDepth 100000 in
set_option maxHeartbeats 1000000 in
theorem awake18 (w : World) (ht : Pow w) :
    Calls Tryd.prog 10 #[] w fun e w' => e = .returned (.bool true) ∧ Below w.heap.size w w' := by
  have hE := fun g W => encode0 g W
  have hL := fun g W => lines_any g 0 1 1 p0ins W
  unfold prog0 at hE
  have HE := Lib.hid hE
  have HL := Lib.hid hL
  clear hE hL
  go_enter Tryd.func10, Tryd.ntmps10
  go_wp2_with fail
  refine (HE.out w.heap.size _ ?_ ?_ ?_ ?_).mono ?_
  · simp [go_sem]
  · simp [go_sem]
  · simp [go_sem]
  · simp only [World.size_alloc]; omega
  rintro e w1 ⟨v, rfl, hown, hb1⟩
  obtain ⟨g, cap, rfl, hnc, hcm, hBg, hg, hcell⟩ := own_cells hown (by omega)
  obtain ⟨hc1, hf1⟩ := bcell hb1
  go_wp2_with fail
  have hlt : w.heap.size < w1.heap.size := by have := hb1.size; simp only [World.size_alloc] at this; omega
  have hbw : Below w.heap.size w w1 := (((Below.refl _ _).alloc (Nat.le_refl _) _).alloc (by rw [World.size_alloc]; omega) _).trans (hb1.mono (by simp only [World.size_alloc]; omega))
  refine (HL.out w.heap.size w1 ?_ hlt (by decide) (ht.below hbw)).mono ?_
  · intro k x hk
    match k, hk with
    | 0, hk =>
      obtain rfl : (⟨1, -1, 0⟩ : Ins) = x := by simpa [p0ins] using hk
      refine ⟨⟨by decide, by decide, by decide⟩, ?_, ?_, ?_⟩
      · rw [hc1 _ _ (by simp only [World.size_alloc]; omega)]; simp [go_sem]
      · rw [hc1 _ _ (by simp only [World.size_alloc]; omega)]; simp [go_sem]
      · rw [hc1 _ _ (by simp only [World.size_alloc]; omega)]; simp [go_sem]
    | k + 1, hk => simp [p0ins] at hk
  rintro e w2 ⟨v2, rfl, hown2, hb2⟩
  obtain ⟨g2, cap2, rfl, hnc2, hcm2, hBg2, hg2, hcell2⟩ := own_cells hown2 (by decide)
  have d0 : w2.cell? ⟨g, 0, none⟩ = some (.int .u8 115) := (hb2.cell (p := ⟨g, _, none⟩) hg).trans (hcell 0 _ enc0_0)
  have d5 : w2.cell? ⟨g, 5, none⟩ = some (.int .u8 1) := (hb2.cell (p := ⟨g, _, none⟩) hg).trans (hcell 5 _ enc0_5)
  have d22 : w2.cell? ⟨g, 22, none⟩ = some (.int .u8 1) := (hb2.cell (p := ⟨g, _, none⟩) hg).trans (hcell 22 _ enc0_22)
  have d26 : w2.cell? ⟨g, 26, none⟩ = some (.int .u8 255) := (hb2.cell (p := ⟨g, _, none⟩) hg).trans (hcell 26 _ enc0_26)
  have dl : w2.cell? ⟨g2, 0, none⟩ = some (.string ⟨#[112, 117, 115, 104, 32, 45, 49]⟩) := hcell2 0 _ (by rw [← p0line]; rfl)
  have hbe : Below w.heap.size w w2 := hbw.trans (hb2.mono (by omega))
  have hpl : p0ins.length = 1 := rfl
  clear hcell hcell2 hown hown2 hc1 hf1 hb2
  go_wp2_with fail
  go_ret
  exact ⟨rfl, hbe⟩
end Go.Proofs.YtaijdpckkobofaaDoor
