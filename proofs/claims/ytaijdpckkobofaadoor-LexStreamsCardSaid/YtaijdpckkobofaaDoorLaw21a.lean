/- ref21.Same at equal lists; the awake of layer 21. -/
import Derived.Test.YtaijdpckkobofaaDoorLex11
import Derived.Test.YtaijdpckkobofaaDoorLexGood
namespace Go.Proofs.YtaijdpckkobofaaDoor
open Go.RowKit
set_option linter.unusedVariables false

/-- the cells of a slice of tokens -/
def TokAt (w : World) (g o : Nat) (l : List Tok) : Prop := ∀ (k : Nat) (t : Tok), l[k]? = some t → w.cell? ⟨g, o + k * 4, none⟩ = some (.int .i64 t.kind) ∧ w.cell? ⟨g, o + k * 4 + 1, none⟩ = some (.string t.text) ∧ w.cell? ⟨g, o + k * 4 + 2, none⟩ = some (.int .i64 t.num) ∧ w.cell? ⟨g, o + k * 4 + 3, none⟩ = some (.int .i64 t.at_)
theorem TokAt.below {w w' : World} {g o B : Nat} {l : List Tok} (h : TokAt w g o l) (k : Below B w w') (hg : g < B) : TokAt w' g o l := by
  intro i t ht
  obtain ⟨h0, h1, h2, h3⟩ := h i t ht
  exact ⟨(k.cell (p := ⟨g, _, none⟩) hg).trans h0, (k.cell (p := ⟨g, _, none⟩) hg).trans h1, (k.cell (p := ⟨g, _, none⟩) hg).trans h2, (k.cell (p := ⟨g, _, none⟩) hg).trans h3⟩
theorem TokAt.at0 {w : World} {g : Nat} {l : List Tok} (h : TokAt w g 0 l) {k : Nat} {t : Tok} (ht : l[k]? = some t) : w.cell? ⟨g, k * 4, none⟩ = some (.int .i64 t.kind) ∧ w.cell? ⟨g, k * 4 + 1, none⟩ = some (.string t.text) ∧ w.cell? ⟨g, k * 4 + 2, none⟩ = some (.int .i64 t.num) ∧ w.cell? ⟨g, k * 4 + 3, none⟩ = some (.int .i64 t.at_) := by
  have := h k t ht
  simpa only [Nat.zero_add] using this

theorem toksCells_get : ∀ (l : List Tok) (k i : Nat) (t : Tok), l[k]? = some t → i < 4 → (toksCells l)[k * 4 + i]? = t.cells[i]?
  | [], k, i, t, h, _ => by simp at h
  | x :: l, 0, i, t, h, hi => by
    simp at h
    subst h
    simp only [toksCells, List.flatMap_cons, Nat.zero_mul, Nat.zero_add]
    rw [List.getElem?_append_left (by simpa [Tok.cells] using hi)]
  | x :: l, k + 1, i, t, h, hi => by
    simp at h
    have ih := toksCells_get l k i t h hi
    simp only [toksCells, List.flatMap_cons] at ih ⊢
    rw [List.getElem?_append_right (by simp [Tok.cells]; omega), show (k + 1) * 4 + i - x.cells.length = k * 4 + i by simp [Tok.cells]; omega]
    exact ih

theorem TokAt_own {w : World} {B : Nat} {v : Value} {l : List Tok} (h : w.ownsRow B 75 4 v l.length (toksCells l)) (h0 : 0 < l.length) :
    ∃ g cap, v = .slice (some ⟨g, 0, none⟩) l.length cap ∧ B ≤ g ∧ g < w.heap.size ∧ TokAt w g 0 l ∧ l.length ≤ cap := by
  rcases h.2 with ⟨_, h1⟩ | ⟨g, cap, cur, rfl, hg, hh, hc, hm, hs, ht⟩
  · omega
  · refine ⟨g, cap, rfl, hg, (Array.getElem?_eq_some_iff.1 hh).1, ?_, hc⟩
    intro k t hk
    have hkl := (List.getElem?_eq_some_iff.1 hk).1
    have each : ∀ i, i < 4 → w.cell? ⟨g, 0 + k * 4 + i, none⟩ = t.cells[i]? := by
      intro i hi
      rw [Lib.cell_of_heap hh, ← toksCells_get l k i t hk hi, ← ht, List.getElem?_take, if_pos (by omega), Array.getElem?_toList]
      congr 1; omega
    exact ⟨each 0 (by omega), each 1 (by omega), each 2 (by omega), each 3 (by omega)⟩

theorem cell_two_a (w : World) (x y : Array Value) (t : TypeId) (i : Nat) : ((w.alloc (.cells x t)).alloc (.cells y t)).cell? ⟨w.heap.size, i, none⟩ = x[i]? := by
  have h : ((w.alloc (.cells x t)).alloc (.cells y t)).heap[w.heap.size]? = some (.cells x t (0, 0)) := by
    rw [Lib.alloc_old _ _ _ (by rw [World.size_alloc]; omega)]; exact heap_new _ _
  rw [Lib.cell_of_heap h]
theorem cell_two_b (w : World) (x y : Array Value) (t : TypeId) (i : Nat) : ((w.alloc (.cells x t)).alloc (.cells y t)).cell? ⟨w.heap.size + 1, i, none⟩ = y[i]? := by
  have h : ((w.alloc (.cells x t)).alloc (.cells y t)).heap[w.heap.size + 1]? = some (.cells y t (0, 0)) := by
    have := heap_new (w.alloc (.cells x t)) (.cells y t)
    rwa [World.size_alloc] at this
  rw [Lib.cell_of_heap h]
theorem below_two (w : World) (x y : Obj) : Below w.heap.size w (((w.alloc x).alloc y).drew) := (((Below.refl _ _).alloc (Nat.le_refl _) _).alloc (by rw [World.size_alloc]; omega) _).drew

set_option maxRecDepth 100000 in
set_option maxHeartbeats 2000000 in
theorem same_any (g1 g2 c1 c2 : Nat) (l : List Tok) (w : World) (h1 : TokAt w g1 0 l) (h2 : TokAt w g2 0 l) (hg1 : g1 < w.heap.size) (hg2 : g2 < w.heap.size) (hl : l.length ≤ 10000) :
    Calls Tryd.prog 66 #[.slice (some ⟨g1, 0, none⟩) l.length c1, .slice (some ⟨g2, 0, none⟩) l.length c2, .bool true] w fun e w' => e = .returned (.bool true) ∧ Below w.heap.size w w' := by
  go_enter Tryd.func66, Tryd.ntmps66
  go_wp2_with fail
  go_loopw [7] (fun i wr => ∃ k : Nat, k ≤ l.length ∧ i = .int .i64 k ∧ Below w.heap.size w wr) (fun i _ => l.length - (intOf i).toNat)
  case atStart => exact ⟨0, Nat.zero_le _, rfl, Below.refl _ _⟩
  case round =>
    obtain ⟨k, hk, rfl, hb⟩ := hrel
    by_cases hlt : k < l.length
    · obtain ⟨t, ht⟩ : ∃ t, l[k]? = some t := ⟨_, List.getElem?_eq_getElem hlt⟩
      obtain ⟨a0, a1, a2, a3⟩ := (h1.below hb hg1).at0 ht
      obtain ⟨b0, b1, b2, b3⟩ := (h2.below hb hg2).at0 ht
      have hs := hb.size
      have hg1' : g1 < wr.heap.size := by omega
      have hg2' : g2 < wr.heap.size := by omega
      obtain ⟨kd, tx, nm, pl⟩ := t
      simp only at a0 a1 a2 a3 b0 b1 b2 b3
      have HB := Lib.hid hb
      clear h1 h2 ht hb
      go_upto_region 6 with fail
      go_cut [8, 9] (fun s8 s9 wx => ∃ p q : Nat, s8 = .pointer (some ⟨p, 0, none⟩) ∧ s9 = .pointer (some ⟨q, 0, none⟩) ∧ (∀ i, wx.cell? ⟨p, i, none⟩ = #[Value.int .i64 kd, .string tx, .int .i64 nm, .int .i64 pl][i]?) ∧ (∀ i, wx.cell? ⟨q, i, none⟩ = #[Value.int .i64 kd, .string tx, .int .i64 nm, .int .i64 pl][i]?) ∧ Below wr.heap.size wr wx)
      case first =>
        go_region_held3 (fun w' => w'.cell? ⟨g1, k * 4, none⟩ = some (.int .i64 kd) ∧ w'.cell? ⟨g1, k * 4 + 1, none⟩ = some (.string tx) ∧ w'.cell? ⟨g1, k * 4 + 2, none⟩ = some (.int .i64 nm) ∧ w'.cell? ⟨g1, k * 4 + 3, none⟩ = some (.int .i64 pl) ∧ w'.cell? ⟨g2, k * 4, none⟩ = some (.int .i64 kd) ∧ w'.cell? ⟨g2, k * 4 + 1, none⟩ = some (.string tx) ∧ w'.cell? ⟨g2, k * 4 + 2, none⟩ = some (.int .i64 nm) ∧ w'.cell? ⟨g2, k * 4 + 3, none⟩ = some (.int .i64 pl)) (go_keep) (fail)
        all_goals (go_wp2_with fail; go_meet; first | exact ⟨_, _, rfl, rfl, cell_two_a _ _ _ _, cell_two_b _ _ _ _, below_two _ _ _⟩ | exact ⟨_, _, rfl, rfl, cell_two_b _ _ _ _, cell_two_a _ _ _ _, below_two _ _ _⟩)
      case rest =>
        obtain ⟨p, q, rfl, rfl, hp, hq, hbc⟩ := hcut
        have p0 := hp 0
        have p1 := hp 1
        have p2 := hp 2
        have p3 := hp 3
        have q0 := hq 0
        have q1 := hq 1
        have q2 := hq 2
        have q3 := hq 3
        simp only [List.getElem?_toArray, List.getElem?_cons_zero, List.getElem?_cons_succ] at p0 p1 p2 p3 q0 q1 q2 q3
        have HBc := Lib.hid (HB.out.trans (hbc.mono hs))
        clear hp hq hbc
        go_wp2_with fail
        go_roundw
        case rel => exact ⟨k + 1, by omega, by go_num, HBc.out⟩
        case measure => simp [intOf]; omega
    · go_wp2_with fail
      go_ret
      exact ⟨rfl, hb⟩
end Go.Proofs.YtaijdpckkobofaaDoor
