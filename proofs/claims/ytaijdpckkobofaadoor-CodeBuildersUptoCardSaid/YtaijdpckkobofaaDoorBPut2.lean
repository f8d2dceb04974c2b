/- The law's puts: Patch. -/
import Derived.Test.YtaijdpckkobofaaDoorBPut1
namespace Go.Proofs.YtaijdpckkobofaaDoor
open Go.RowKit
set_option linter.unusedVariables false

def Sz (N : Nat) (p : PProg) : Prop := (p.code.length ≤ N ∧ p.msgs.length ≤ N ∧ p.routes.length ≤ N ∧ p.sends.length ≤ N) ∧ (∀ m ∈ p.msgs, m.length ≤ N) ∧ (∀ r ∈ p.routes, r.length ≤ N) ∧ ∀ s ∈ p.sends, s.routes.length ≤ N
theorem Sz.mono {N M : Nat} {p : PProg} (h : Sz N p) (k : N ≤ M) : Sz M p := by
  obtain ⟨⟨h1, h2, h3, h4⟩, h5, h6, h7⟩ := h
  exact ⟨⟨by omega, by omega, by omega, by omega⟩, fun m hm => by have := h5 m hm; omega, fun m hm => by have := h6 m hm; omega, fun m hm => by have := h7 m hm; omega⟩
theorem Sz.code {N K : Nat} {p : PProg} (h : Sz N p) {xs : List PIns} (k : xs.length ≤ K) : Sz (N + K) { p with code := p.code ++ xs } := by
  obtain ⟨⟨h1, h2, h3, h4⟩, h5, h6, h7⟩ := h
  refine ⟨⟨?_, Nat.le_trans h2 (by omega), Nat.le_trans h3 (by omega), Nat.le_trans h4 (by omega)⟩, fun m hm => Nat.le_trans (h5 m hm) (by omega), fun m hm => Nat.le_trans (h6 m hm) (by omega), fun m hm => Nat.le_trans (h7 m hm) (by omega)⟩
  show (p.code ++ xs).length ≤ _
  rw [List.length_append]; omega
theorem Sz.patch {N : Nat} {p : PProg} (h : Sz N p) (k : Nat) (x : PIns) : Sz N { p with code := p.code.set k x } := by
  obtain ⟨⟨h1, h2, h3, h4⟩, h5, h6, h7⟩ := h
  refine ⟨⟨?_, h2, h3, h4⟩, h5, h6, h7⟩
  show (p.code.set k x).length ≤ _
  rw [List.length_set]; exact h1
/-- both hold the same again -/
def Both (w0 : World) (b z N : Nat) (w' : World) : Prop := (∃ p F G, St2 w0.heap.size b z w' p p F G ∧ Sz N p) ∧ Below w0.heap.size w0 w'

set_option maxRecDepth 100000 in
set_option maxHeartbeats 8000000 in
theorem puts_k2 (b z N : Nat) (w0 w : World) (p : PProg) (F G : Nat → Prop) (hw : Below w0.heap.size w0 w) (h : St2 w0.heap.size b z w p p F G) (hsz : Sz N p) (hN : N ≤ 4194304) (a t m bl : Int) (x1 x2 x3 x4 : Option Addr) (n1 n2 n3 n4 c1 c2 c3 c4 : Nat) :
    Calls Tryd.prog 11 #[.pointer (some ⟨b, 0, none⟩), .pointer (some ⟨z, 0, none⟩), .agg #[.int .i64 2, .int .i64 a, .int .i64 t, .slice x1 n1 c1, .slice x2 n2 c2, .slice x3 n3 c3, .int .i64 m, .slice x4 n4 c4, .int .i64 bl]] w fun e w' => e = .returned (.bool true) ∧ Both w0 b z N w' ∧ Chg (fun i => F i ∨ G i) w w' := by
  obtain ⟨w1, q, hw1, hq⟩ : ∃ w1 q, w.alloc (.cells #[.int .i64 2, .int .i64 a, .int .i64 t, .slice x1 n1 c1, .slice x2 n2 c2, .slice x3 n3 c3, .int .i64 m, .slice x4 n4 c4, .int .i64 bl] 41) = w1 ∧ w.heap.size = q := ⟨_, _, rfl, rfl⟩
  have hb1 : Below w.heap.size w w1 := by rw [← hw1]; exact (Below.refl _ _).alloc (Nat.le_refl _) _
  have hh1 : w1.heap[q]? = some (.cells #[.int .i64 2, .int .i64 a, .int .i64 t, .slice x1 n1 c1, .slice x2 n2 c2, .slice x3 n3 c3, .int .i64 m, .slice x4 n4 c4, .int .i64 bl] 41 (0, 0)) := by rw [← hw1, ← hq]; exact heap_new _ _
  have hql : q < w1.heap.size := (Array.getElem?_eq_some_iff.1 hh1).1
  have q0 : w1.cell? ⟨q, 0, none⟩ = some (.int .i64 2) := (Lib.cell_of_heap hh1 _).trans rfl
  have q1 : w1.cell? ⟨q, 1, none⟩ = some (.int .i64 a) := (Lib.cell_of_heap hh1 _).trans rfl
  have q2 : w1.cell? ⟨q, 2, none⟩ = some (.int .i64 t) := (Lib.cell_of_heap hh1 _).trans rfl
  have hB0 : w0.heap.size ≤ w.heap.size := hw.size
  have HS1 := Lib.hid (h.below hb1)
  have hqF : ¬ F q := fun hf => by have := h.hb.lt q hf; omega
  have hqG : ¬ G q := fun hf => by have := h.hq.lt q hf; omega
  have HBW1 := Lib.hid (hw.trans (hb1.mono hB0))
  have HC1 : Hid (Chg (fun i => F i ∨ G i) w w1) := Lib.hid (Chg.of_below hb1)
  have HSZ := Lib.hid hsz
  have hlen := hsz.1.1
  have HPT := Lib.hid (patch_any F b w1 p HS1.out.hb a t (by omega))
  obtain ⟨n0, hn0⟩ : ∃ n, p.code.length = n := ⟨_, rfl⟩
  have HN0 := Lib.hid hn0
  rw [hn0] at hlen
  have hBW1 : w0.heap.size ≤ w1.heap.size := HBW1.out.size
  have HW1 := Lib.hid hw1
  have HQ := Lib.hid hq
  obtain ⟨pa, pc, z1, -, -⟩ := HS1.out.hq.code
  rw [hn0] at z1
  have hzF : ¬ F z := fun hf => HS1.out.dj z hf HS1.out.hq.here.1
  have hzl := HS1.out.hq.here.2.1
  clear h hb1 hh1 hw1 hq hn0 hw hsz
  go_enter Tryd.func11, Tryd.ntmps11
  go_upto_region 1 with fail
  rw [HW1.out, HQ.out]
  clear HW1 HQ
  go_upto_region 13 with fail
  go_wp2_with fail
  refine HPT.out.mono ?_
  rintro e w2 (⟨hout, rfl, rfl⟩ | ⟨k, x, rfl, hx, rfl, had⟩)
  · rw [HN0.out] at hout
    go_upto_region 14 with fail
    go_cut [75] (fun s wx => s = .bool true ∧ ∃ n, wx = w1.drewN n)
    case first =>
      by_cases h1 : a < 0
      · go_region
        all_goals (go_wp2_with fail; go_meet; exact ⟨rfl, _, rfl⟩)
      · have h2 : (n0 : Int) ≤ a := by omega
        go_region
        all_goals (go_wp2_with fail; go_meet; exact ⟨rfl, _, rfl⟩)
    case rest =>
      obtain ⟨rfl, n, rfl⟩ := hcut
      go_wp2_with fail
      go_ret
      exact ⟨rfl, ⟨⟨p, F, G, HS1.out.below (below_drewN (Below.refl _ _) n), HSZ.out⟩, below_drewN HBW1.out n⟩, HC1.out.trans (Chg.of_drewN (F := fun _ => False) _ n) fun _ h => h.elim⟩
  · have hk : k < n0 := by have := some_lt hx; rw [HN0.out] at this; exact this
    obtain ⟨⟨F', hS2, -⟩, hb2⟩ := HS1.out.advB hBW1 had
    have q12 : w2.cell? ⟨q, 1, none⟩ = some (.int .i64 (k : Int)) := (had.cell hql hqF).trans q1
    have q22 : w2.cell? ⟨q, 2, none⟩ = some (.int .i64 t) := (had.cell hql hqF).trans q2
    have z2 : w2.cell? ⟨z, 0, none⟩ = some (.slice pa n0 pc) := (had.cell hzl hzF).trans z1
    have HS2 := Lib.hid hS2
    have HC2 := Lib.hid (HC1.out.trans had.chg fun i hi => Or.inl (Or.inl hi))
    have HBW2 := Lib.hid (HBW1.out.trans hb2)
    have hBW2 : w0.heap.size ≤ w2.heap.size := HBW2.out.size
    have hqz := hS2.hq
    obtain ⟨vc, vm, vr, vs, ms, rs, ss, hBB⟩ := hqz
    obtain ⟨g, cg, hv, hnc, d0, g0, hadq⟩ := hBB.patch tags_p hx t
    have e0 := hBB.cell.1
    rw [z2, hv] at e0
    injection e0 with e0
    injection e0 with e1 en e2
    clear en
    subst e1 e2
    have HA := Lib.hid hadq
    have HX := Lib.hid hx
    rw [HN0.out] at hnc
    clear had hS2 hb2 hBB hadq hx hv q1 q2 z1
    go_upto_region 14 with fail
    go_cut [75] (fun s wx => s = .bool false ∧ ∃ n, wx = w2.drewN n)
    case first =>
      go_region
      all_goals (go_wp2_with fail; go_meet; exact ⟨by first | rfl | (refine congrArg Value.bool ?_; simp; omega), _, rfl⟩)
    case rest =>
      obtain ⟨rfl, n, rfl⟩ := hcut
      go_upto_region 16 with fail
      go_cut [] (fun wx => ∃ j, wx = (w2.setCell ⟨g, k * 3 + 1, none⟩ (.int .i64 t)).drewN j)
      case first =>
        go_region
        all_goals (go_wp2_with fail; go_meet; exact ⟨n + 1, rfl⟩)
      case rest =>
        obtain ⟨j, rfl⟩ := hcut
        obtain ⟨⟨G', hS3, -⟩, hb3⟩ := HS2.out.advQ hBW2 HA.out
        have HS3 := Lib.hid hS3
        have HC3 := Lib.hid (HC2.out.trans HA.out.chg fun i hi => Or.inl (Or.inr hi))
        have HB3 := Lib.hid (HBW2.out.trans hb3)
        clear hS3 hb3
        go_wp2_with fail
        go_ret
        exact ⟨rfl, ⟨⟨_, _, _, HS3.out.below (below_drewN (Below.refl _ _) j), HSZ.out.patch _ _⟩, below_drewN HB3.out j⟩, HC3.out.trans (Chg.of_drewN (F := fun _ => False) _ j) fun _ h => h.elim⟩
end Go.Proofs.YtaijdpckkobofaaDoor
