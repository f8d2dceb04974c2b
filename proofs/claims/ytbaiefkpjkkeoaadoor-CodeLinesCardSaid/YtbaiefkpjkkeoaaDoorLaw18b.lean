/- shallotlaw18.CodeLines walked: it returns true. -/
import Derived.Test.YtbaiefkpjkkeoaaDoorLaw18a
import Derived.Deep.RegionWith
import Derived.Deep.DeepCutAuto
namespace Go.Proofs.YtbaiefkpjkkeoaaDoor
open Go.RowKit
set_option linter.unusedVariables false

def Ins.cells (i : Ins) : List Value := [.int .u8 i.op, .int .i64 i.a, .int .i64 i.b]
def insCells (xs : List Ins) : List Value := xs.flatMap Ins.cells
theorem insCells_length (xs : List Ins) : (insCells xs).length = xs.length * 3 := by
  induction xs with
  | nil => rfl
  | cons x xs ih => simp only [insCells, List.flatMap_cons, List.length_append, List.length_cons] at ih ⊢; rw [ih]; simp [Ins.cells]; omega
theorem insCells_get (xs : List Ins) (k : Nat) (x : Ins) (h : xs[k]? = some x) : (insCells xs)[k * 3]? = some (.int .u8 x.op) ∧ (insCells xs)[k * 3 + 1]? = some (.int .i64 x.a) ∧ (insCells xs)[k * 3 + 2]? = some (.int .i64 x.b) := by
  induction xs generalizing k with
  | nil => simp at h
  | cons y ys ih =>
    cases k with
    | zero =>
      obtain rfl : y = x := by simpa using h
      simp [insCells, Ins.cells]
    | succ k =>
      have := ih k (by simpa using h)
      have e : insCells (y :: ys) = [.int .u8 y.op, .int .i64 y.a, .int .i64 y.b] ++ insCells ys := rfl
      have e1 : (k + 1) * 3 = k * 3 + 3 := by omega
      have e2 : k * 3 + 3 + 1 = k * 3 + 1 + 3 := by omega
      have e3 : k * 3 + 3 + 2 = k * 3 + 2 + 3 := by omega
      rw [e, e1, e2, e3]
      simpa using this
theorem insCells_one (xs : List Ins) : ∀ v ∈ insCells xs, v.oneCell' = true := by
  intro v hv
  obtain ⟨x, _, hx⟩ := List.mem_flatMap.1 hv
  simp only [Ins.cells, List.mem_cons, List.not_mem_nil, or_false] at hx
  rcases hx with rfl | rfl | rfl <;> rfl

theorem insCells_inv (xs : List Ins) (j : Nat) (u : Value) (h : (insCells xs)[j]? = some u) : ∃ k x r, xs[k]? = some x ∧ r < 3 ∧ j = k * 3 + r ∧ x.cells[r]? = some u := by
  have hj : j < (insCells xs).length := (List.getElem?_eq_some_iff.1 h).1
  rw [insCells_length] at hj
  have hk : j / 3 < xs.length := by omega
  obtain ⟨x, hx⟩ : ∃ x, xs[j / 3]? = some x := ⟨_, List.getElem?_eq_getElem hk⟩
  have g := insCells_get xs (j / 3) x hx
  have hr : j % 3 = 0 ∨ j % 3 = 1 ∨ j % 3 = 2 := by omega
  refine ⟨j / 3, x, j % 3, hx, by omega, by omega, ?_⟩
  rcases hr with hr | hr | hr
  · rw [show j = j / 3 * 3 from by omega, g.1] at h; rw [hr]; simpa [Ins.cells] using h
  · rw [show j = j / 3 * 3 + 1 from by omega, g.2.1] at h; rw [hr]; simpa [Ins.cells] using h
  · rw [show j = j / 3 * 3 + 2 from by omega, g.2.2] at h; rw [hr]; simpa [Ins.cells] using h

/-- the cells of a slice of instructions, as an append reads them -/
theorem InsAt.cells {w : World} {g o : Nat} {xs : List Ins} (h : InsAt w g o xs) : ∀ j u, (insCells xs)[j]? = some u → w.cell? ((⟨g, o, none⟩ : Addr).add j) = some u := by
  intro j u hj
  obtain ⟨k, x, r, hx, hr, rfl, hu⟩ := insCells_inv xs j u hj
  obtain ⟨_, c0, c1, c2⟩ := h k x hx
  rw [add_plain]
  match r, hr, hu with
  | 0, _, hu => simp [Ins.cells] at hu; subst hu; simpa using c0
  | 1, _, hu => simp [Ins.cells] at hu; subst hu; simpa [Nat.add_assoc] using c1
  | 2, _, hu => simp [Ins.cells] at hu; subst hu; simpa [Nat.add_assoc] using c2

theorem own_ins {w : World} {B : Nat} {v : Value} {xs : List Ins} (h : w.ownsRow B 33 3 v xs.length (insCells xs)) (h0 : 0 < xs.length) (hok : ∀ x ∈ xs, x.ok) :
    ∃ g cap, v = .slice (some ⟨g, 0, none⟩) xs.length cap ∧ B ≤ g ∧ g < w.heap.size ∧ InsAt w g 0 xs := by
  have hh := h
  rcases hh.2 with ⟨_, h1⟩ | ⟨g, cap, cur, rfl, hg, hb, hnc, hcm, hcs, htk⟩
  · omega
  · refine ⟨g, cap, rfl, hg, ?_, ?_⟩
    · rcases Nat.lt_or_ge g w.heap.size with h' | h'
      · exact h'
      · rw [Array.getElem?_eq_none h'] at hb; cases hb
    · intro k x hk
      have hc := h.cells (g := g) rfl
      obtain ⟨g0, g1, g2⟩ := insCells_get xs k x hk
      have r0 := hc _ _ g0
      have r1 := hc _ _ g1
      have r2 := hc _ _ g2
      rw [add_plain] at r0 r1 r2
      exact ⟨hok x (List.mem_of_getElem? hk), r0, r1, r2⟩

theorem own_copied {w : World} {B : Nat} {e : TypeId} {v : Value} {n : Nat} {xs : List Value} (h : w.ownsRow B e 3 v (0 + n) ((#[] : Array Value).toList ++ xs)) : w.ownsRow B e 3 v n xs := by
  rw [Nat.zero_add] at h; exact h

theorem own_shape {w : World} {B : Nat} {e : TypeId} {v : Value} {sz : Nat} {xs : List Value} (h : w.ownsRow B e sz v (0 + 0) xs) : ∃ la cap, v = .slice la 0 cap := by
  rcases h.2 with ⟨rfl, _⟩ | ⟨g, cap, cur, rfl, _⟩
  · exact ⟨_, _, rfl⟩
  · exact ⟨_, _, rfl⟩

theorem info_instr : (Tryd.prog.info? 33).map (fun i => (i.zero, i.size, i.bytes)) = some (some (.agg #[.int .u8 0, .int .i64 0, .int .i64 0]), 3, 24) := by kernel_rfl

set_option maxRecDepth 100000 in
set_option maxHeartbeats 2000000 in
theorem codeLines_some (g o cap : Nat) (xs : List Ins) (w : World) (h : InsAt w g o xs) (h0 : 0 < xs.length) (hg : g < w.heap.size) (hn : xs.length ≤ 5864062014805) (ht : Pow w) :
    Calls Tryd.prog 3 #[.slice (some ⟨g, o, none⟩) xs.length cap] w fun e w' => e = .returned (.bool true) ∧ Below w.heap.size w w' := by
  obtain ⟨i0, hi, hz0, hz1, hz2⟩ := info_parts info_instr
  have hok : ∀ x ∈ xs, x.ok := fun x hx => by
    obtain ⟨k, hk⟩ := List.mem_iff_getElem?.1 hx
    exact (h k x hk).1
  go_enter Tryd.func3, Tryd.ntmps3
  go_wp2_with fail
  refine (awake18 w ht).mono ?_
  rintro e w1 ⟨rfl, hb1⟩
  have h1 := h.below hb1 hg
  have hs1 := hb1.size
  go_wp2_with (first | (at_builtin; refine wpList_append_own _ rfl (.tmp 7) (.tmp 8) 22 rfl w1.heap.size 33 i0 (.agg #[.int .u8 0, .int .i64 0, .int .i64 0]) 3 24 Tryd.underlying22 hi hz0 hz1 hz2 rfl (by decide) _ 0 _ rfl (World.ownsRow_lit w1 _ 0 (Nat.le_refl _) (by decide) rfl) ⟨g, o, none⟩ xs.length cap (insCells xs) rfl (insCells_length _) (InsAt.cells (h1.below ((Below.refl _ _).alloc (Nat.le_refl _) _) (by omega))) (insCells_one _) (by unfold maxLen; omega) (by omega) (by rw [World.size_alloc]; omega) ?_; intro v' w2 hown2 hgrow _; obtain ⟨g2, cap2, rfl, hB2, hg2, hI2⟩ := own_ins (own_copied hown2) h0 hok; have hb2 := below_lit_app (Below.refl w1.heap.size w1) hgrow))
  have hs2 := hb2.size
  have hbw2 : Below w.heap.size w w2 := hb1.trans (hb2.mono hs1)
  refine (lines_any g2 0 cap2 0 xs w2 hI2 hg2 hn (ht.below hbw2)).mono ?_
  rintro e w3 ⟨v3, rfl, hown3, hb3⟩
  obtain ⟨g3, cap3, rfl, hnc3, hcm3, hB3, hg3, hcell3⟩ := own_cells hown3 h0
  have hs3 := hb3.size
  have hbw3 : Below w.heap.size w w3 := hbw2.trans (hb3.mono (by omega))
  have hmx : (xs.length : Int) ≤ 9223372036854775807 := by omega
  have HC := Lib.hid hcell3
  have HI := Lib.hid h
  clear hcell3 h1 h hI2 hown3 hok
  go_wp2_with fail
  go_loopw [19] (fun i wr => ∃ k : Nat, k ≤ xs.length ∧ i = .int .i64 k ∧ Below w3.heap.size w3 wr) (fun i _ => xs.length - (intOf i).toNat)
  case atStart => exact ⟨0, Nat.zero_le _, rfl, Below.refl _ _⟩
  case round =>
    obtain ⟨k, hk, rfl, hbr⟩ := hrel
    by_cases hlt : k < xs.length
    · obtain ⟨x, hx⟩ : ∃ x, xs[k]? = some x := ⟨_, List.getElem?_eq_getElem hlt⟩
      have hsr := hbr.size
      have hbwr : Below w.heap.size w wr := hbw3.trans (hbr.mono (by omega))
      obtain ⟨⟨hop, ha, hb⟩, c0, c1, c2⟩ := (HI.out.below hbwr hg) k x hx
      have hgr : g < wr.heap.size := by omega
      have hgr3 : g3 < wr.heap.size := by omega
      have cl : wr.cell? ⟨g3, k, none⟩ = some (bstr (lineOf x.op x.a x.b)) := (hbr.cell (p := ⟨g3, k, none⟩) hg3).trans (HC.out k _ (by rw [List.getElem?_map, hx]; rfl))
      have HR : Hid (∀ W, Calls Tryd.prog 12 #[.agg #[.int .u8 x.op, .int .i64 x.a, .int .i64 x.b]] W fun e w' => e = .returned (bstr (lineOf x.op x.a x.b)) ∧ Below W.heap.size W w') := fun W => rline_any x.op x.a x.b W hop ha hb
      clear hx
      unfold bstr at cl HR
      generalize lineOf x.op x.a x.b = L at *
      go_upto_region 9 with fail
      go_cut [31] (fun s31 wx => s31 = .bool false ∧ Below wr.heap.size wr wx)
      case first =>
        go_region_with (go_at_call 12; refine (HR.out _).mono ?_; rintro e w' ⟨rfl, hbq⟩; have hq : w'.cell? ⟨g3, k, none⟩ = some (.string ⟨L.toArray⟩) := (hbq.cell (p := ⟨g3, k, none⟩) hgr3).trans cl; have hbq2 : Below wr.heap.size wr w' := (Below.refl _ _).drew.trans hbq)
        all_goals (go_wp2_with fail; go_meet; exact ⟨rfl, by assumption⟩)
      case rest =>
        obtain ⟨rfl, hwx⟩ := hcut
        go_wp2_with fail
        go_roundw
        case rel => exact ⟨k + 1, by omega, by go_num, hbr.trans (hwx.mono hsr)⟩
        case measure => simp [intOf]; omega
    · go_wp2_with fail
      go_ret
      exact ⟨rfl, hbw3.trans (hbr.mono (by omega))⟩
end Go.Proofs.YtbaiefkpjkkeoaaDoor
