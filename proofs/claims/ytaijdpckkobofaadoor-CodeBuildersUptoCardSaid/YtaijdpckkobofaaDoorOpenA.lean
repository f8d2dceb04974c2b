/- The law's acts as they came in. -/
import Derived.Test.YtaijdpckkobofaaDoorOpenL
namespace Go.Proofs.YtaijdpckkobofaaDoor
open Go.ChangeShapes Go.WideShapes Go.ChangeAt Go.RowKit
set_option linter.unusedVariables false

section
variable {H : Type} {enc : TypeId × Value → H} {P : Program} {w : World} {base : Nat} {spare : Nat → Bool} {held : Bool}
theorem trod_struct7 {t : TypeId} {f0 f1 f2 f3 f4 f5 f6 : Field} {fuel : Nat} {cs : List Value} {x : DataW H × List MemPlace} (ht : P.underlying t = some (.struct #[f0, f1, f2, f3, f4, f5, f6])) (h : DataW.trod enc P w base spare held fuel t cs = some x) :
    ∃ y0 y1 y2 y3 y4 y5 y6 n, x.1 = .agg [y0.1, y1.1, y2.1, y3.1, y4.1, y5.1, y6.1] ∧ cs.length = P.cellsOf t ∧ DataW.trod enc P w base spare held n f0.type ((cs.drop f0.offset).take (P.cellsOf f0.type)) = some y0 ∧
      DataW.trod enc P w base spare held n f1.type ((cs.drop f1.offset).take (P.cellsOf f1.type)) = some y1 ∧ DataW.trod enc P w base spare held n f2.type ((cs.drop f2.offset).take (P.cellsOf f2.type)) = some y2 ∧
      DataW.trod enc P w base spare held n f3.type ((cs.drop f3.offset).take (P.cellsOf f3.type)) = some y3 ∧ DataW.trod enc P w base spare held n f4.type ((cs.drop f4.offset).take (P.cellsOf f4.type)) = some y4 ∧
      DataW.trod enc P w base spare held n f5.type ((cs.drop f5.offset).take (P.cellsOf f5.type)) = some y5 ∧ DataW.trod enc P w base spare held n f6.type ((cs.drop f6.offset).take (P.cellsOf f6.type)) = some y6 := by
  obtain ⟨xs, n, _, rfl, hl, hlen, hf⟩ := DataW.trod_struct ht h
  match xs, hlen with
  | [y0, y1, y2, y3, y4, y5, y6], _ => exact ⟨y0, y1, y2, y3, y4, y5, y6, n, by simp, hl, by simpa using hf 0 f0 rfl, by simpa using hf 1 f1 rfl, by simpa using hf 2 f2 rfl, by simpa using hf 3 f3 rfl, by simpa using hf 4 f4 rfl, by simpa using hf 5 f5 rfl, by simpa using hf 6 f6 rfl⟩
end

variable {H : Type} {enc : TypeId × Value → H} {W : World}
theorem sum_ones {α : Type} (l : List α) : (l.map fun _ => 1).sum = l.length := by
  induction l with
  | nil => rfl
  | cons x l ih => simp only [List.map_cons, List.sum_cons, List.length_cons, ih]; omega

theorem open_spec {n : Nat} {cs : List Value} {x : DataW H × List MemPlace} (h : DataW.trod enc Tryd.prog W 0 (fun _ => true) true n 39 cs = some x) :
    ∃ (s : PSpec) (a : Option Addr) (c : Nat), cs = [.int .i64 s.msg, .slice a s.routes.length c, .int .i64 s.block] ∧ IntsA W a s.routes ∧ (a = none → c = 0) ∧ s.routes.length + 1 ≤ Rows.uptoBulk x.1 := by
  obtain ⟨y0, y1, y2, m, hx, hl, h0, h1, h2⟩ := Deep.trod_struct3 Tryd.underlying39 h
  rw [oc_spec] at hl
  obtain ⟨a, b, c, rfl⟩ := olen3 hl
  obtain ⟨v, e0, _, _⟩ := DataW.trod_int Tryd.underlying3 h0
  obtain ⟨aa, cc, l, e1, hL, hnil, hsz⟩ := open_list (by decide) Tryd.underlying37 oc_int (fun y : Int => [Value.int .i64 y]) (fun _ => rfl) (fun _ => True) (fun _ => 1) 0 open_i64 h1
  obtain ⟨t, e2, _, _⟩ := DataW.trod_int Tryd.underlying3 h2
  simp only [oc_slint, oc_int] at e0 e1 e2
  simp at e0 e1 e2
  rw [sum_ones] at hsz
  refine ⟨⟨v, l, t⟩, aa, cc, by rw [e0, e1, e2], fun k y hk => (hL k y hk).2, hnil, ?_⟩
  rw [hx]
  simp only [Rows.uptoBulk, Rows.uptoBulkAll]
  show l.length + 1 ≤ _
  omega

structure ActD where
  x : PAct
  x1 : Option Addr
  x2 : Option Addr
  x3 : Option Addr
  x4 : Option Addr
  c1 : Nat
  c2 : Nat
  c3 : Nat
  c4 : Nat
def ActD.cells (d : ActD) : List Value := d.x.cells d.x1 d.x2 d.x3 d.x4 d.c1 d.c2 d.c3 d.c4
theorem open_act (n : Nat) (cs : List Value) (x : DataW H × List MemPlace) (h : DataW.trod enc Tryd.prog W 0 (fun _ => true) true n 41 cs = some x) :
    ∃ d : ActD, cs = d.cells ∧ ActA W d.x d.x1 d.x2 d.x3 d.x4 d.c1 d.c2 d.c3 d.c4 ∧ d.x.sz ≤ Rows.uptoBulk x.1 := by
  obtain ⟨y0, y1, y2, y3, y4, y5, y6, m, hx, hl, h0, h1, h2, h3, h4, h5, h6⟩ := trod_struct7 Tryd.underlying41 h
  rw [oc_act] at hl
  obtain ⟨a, b, c, d, e, f, g, i, j, rfl⟩ := olen9 hl
  obtain ⟨kd, e0, _, _⟩ := DataW.trod_int Tryd.underlying3 h0
  obtain ⟨at_, e1, _, _⟩ := DataW.trod_int Tryd.underlying3 h1
  obtain ⟨tv, e2, _, _⟩ := DataW.trod_int Tryd.underlying3 h2
  obtain ⟨a1, c1, l1, e3, hL1, n1, s1⟩ := open_list (by decide) Tryd.underlying23 oc_ins PIns.cells (fun _ => rfl) (fun y => y.op ≤ 255) (fun _ => 1) ⟨0, 0, 0⟩ open_ins h3
  obtain ⟨a2, c2, l2, e4, hL2, n2, s2⟩ := open_list (by decide) Tryd.underlying35 oc_u8 (fun y : UInt8 => [Value.int .u8 (y.toNat : Int)]) (fun _ => rfl) (fun _ => True) (fun _ => 1) 0 open_u8 h4
  obtain ⟨a3, c3, l3, e5, hL3, n3, s3⟩ := open_list (by decide) Tryd.underlying36 oc_stop PStop.cells (fun _ => rfl) (fun _ => True) (fun _ => 1) ⟨[], 0, 0⟩ open_stop h5
  obtain ⟨s, a4, c4, e6, hL4, n4, s4⟩ := open_spec h6
  simp only [oc_slins, oc_slu8, oc_slstop, oc_spec, oc_int] at e0 e1 e2 e3 e4 e5 e6
  simp at e0 e1 e2 e3 e4 e5 e6
  obtain ⟨e6, e7, e8⟩ := e6
  rw [sum_ones] at s1 s2 s3
  refine ⟨⟨⟨kd, at_, tv, l1, l2, l3, s⟩, a1, a2, a3, a4, c1, c2, c3, c4⟩, ?_, ⟨?_, n1, ?_, n2, ?_, n3, hL4, n4⟩, ?_⟩
  · show _ = [Value.int .i64 kd, .int .i64 at_, .int .i64 tv, .slice a1 l1.length c1, .slice a2 l2.length c2, .slice a3 l3.length c3, .int .i64 s.msg, .slice a4 s.routes.length c4, .int .i64 s.block]
    rw [e0, e1, e2, e3, e4, e5, e6, e7, e8]
  · exact fun k y hk => hL1 k y hk
  · intro k y hk
    obtain ⟨_, g, o, ha, hg, hc⟩ := hL2 k y hk
    exact ⟨g, o, ha, hg, by simpa using hc 0 _ rfl⟩
  · exact fun k y hk => (hL3 k y hk).2
  · rw [hx]
    simp only [Rows.uptoBulk, Rows.uptoBulkAll]
    show 1 + l1.length + l2.length + l3.length + s.routes.length ≤ _
    omega
theorem open_acts {fuel : Nat} {cs : List Value} {x : DataW H × List MemPlace} (h : DataW.trod enc Tryd.prog W 0 (fun _ => true) true fuel 22 cs = some x) :
    ∃ (a : Option Addr) (c : Nat) (l : List PAct), cs = [.slice a l.length c] ∧ ActsA W a l ∧ (l.map PAct.sz).sum + 1 ≤ Rows.uptoBulk x.1 := by
  obtain ⟨a, c, l, e, hL, _, hs⟩ := open_list (by decide) Tryd.underlying22 oc_act ActD.cells (fun _ => rfl) (fun d => ActA W d.x d.x1 d.x2 d.x3 d.x4 d.c1 d.c2 d.c3 d.c4) (fun d => d.x.sz) ⟨⟨0, 0, 0, [], [], [], ⟨0, [], 0⟩⟩, none, none, none, none, 0, 0, 0, 0⟩ open_act h
  refine ⟨a, c, l.map ActD.x, by rw [e]; simp, fun k y hk => ?_, by rw [List.map_map]; exact hs⟩
  rw [List.getElem?_map] at hk
  obtain ⟨d, hd, rfl⟩ := Option.map_eq_some_iff.1 hk
  obtain ⟨h1, h2⟩ := hL k d hd
  exact ⟨_, _, _, _, _, _, _, _, h1, h2⟩
theorem acts_len (l : List PAct) : l.length ≤ (l.map PAct.sz).sum := by
  induction l with
  | nil => simp
  | cons x l ih =>
    have h1 : 1 ≤ x.sz := by unfold PAct.sz; omega
    simp only [List.map_cons, List.sum_cons, List.length_cons]
    omega
end Go.Proofs.YtaijdpckkobofaaDoor
