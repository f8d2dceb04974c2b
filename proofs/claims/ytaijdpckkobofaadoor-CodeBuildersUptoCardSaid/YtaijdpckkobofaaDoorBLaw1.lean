/- An act of the law, as it lies in memory; puts and names of whatever act. -/
import Derived.Test.YtaijdpckkobofaaDoorBNam4
import Derived.Test.YtaijdpckkobofaaDoorBNam5
namespace Go.Proofs.YtaijdpckkobofaaDoor
open Go.RowKit
set_option linter.unusedVariables false

structure PAct where
  kind : Int
  at_ : Int
  tv : Int
  code : List PIns
  text : List UInt8
  stops : List PStop
  spec : PSpec
def PAct.sz (x : PAct) : Nat := 1 + x.code.length + x.text.length + x.stops.length + x.spec.routes.length
/-- its nine cells -/
structure ActA (w : World) (x : PAct) (x1 x2 x3 x4 : Option Addr) (c1 c2 c3 c4 : Nat) : Prop where
  code : InsA w x1 x.code
  n1 : x1 = none → c1 = 0
  text : BsA w x2 x.text
  n2 : x2 = none → c2 = 0
  stops : StopsA w x3 x.stops
  n3 : x3 = none → c3 = 0
  routes : IntsA w x4 x.spec.routes
  n4 : x4 = none → c4 = 0
def PAct.cells (x : PAct) (x1 x2 x3 x4 : Option Addr) (c1 c2 c3 c4 : Nat) : List Value := [.int .i64 x.kind, .int .i64 x.at_, .int .i64 x.tv, .slice x1 x.code.length c1, .slice x2 x.text.length c2, .slice x3 x.stops.length c3, .int .i64 x.spec.msg, .slice x4 x.spec.routes.length c4, .int .i64 x.spec.block]
def ActsA (w : World) (a : Option Addr) (l : List PAct) : Prop := ∀ (k : Nat) (x : PAct), l[k]? = some x → ∃ x1 x2 x3 x4 c1 c2 c3 c4, ActA w x x1 x2 x3 x4 c1 c2 c3 c4 ∧ RowAt w a 9 k (x.cells x1 x2 x3 x4 c1 c2 c3 c4)

theorem lputs_any (b z N K : Nat) (w0 w : World) (p : PProg) (F G : Nat → Prop) (h : St2 w0.heap.size b z w p p F G) (hsz : Sz N p) (hw : Below w0.heap.size w0 w) (x : PAct) (x1 x2 x3 x4 : Option Addr) (c1 c2 c3 c4 : Nat) (hA : ActA w0 x x1 x2 x3 x4 c1 c2 c3 c4) (hK : x.sz ≤ K) (hN : N + K ≤ 4194304) :
    Calls Tryd.prog 11 #[.pointer (some ⟨b, 0, none⟩), .pointer (some ⟨z, 0, none⟩), .agg #[.int .i64 x.kind, .int .i64 x.at_, .int .i64 x.tv, .slice x1 x.code.length c1, .slice x2 x.text.length c2, .slice x3 x.stops.length c3, .int .i64 x.spec.msg, .slice x4 x.spec.routes.length c4, .int .i64 x.spec.block]] w fun e w' => e = .returned (.bool true) ∧ Both w0 b z (N + K) w' ∧ Chg (fun i => F i ∨ G i) w w' := by
  unfold PAct.sz at hK
  by_cases k1 : x.kind = 1
  · rw [k1]
    refine (puts_k1 b z w0 w p F G hw h x.at_ x.tv x.spec.msg x.spec.block x1 x2 x3 x4 _ _ _ _ c1 c2 c3 c4 x.code hA.code rfl hA.n1 (by have := hsz.1.1; omega)).mono ?_
    rintro e w' ⟨rfl, ⟨F', G', h'⟩, hb, hc⟩
    exact ⟨rfl, ⟨⟨_, F', G', h', hsz.code (by omega)⟩, hb⟩, hc⟩
  · by_cases k2 : x.kind = 2
    · rw [k2]
      refine (puts_k2 b z N w0 w p F G hw h hsz (by omega) x.at_ x.tv x.spec.msg x.spec.block x1 x2 x3 x4 _ _ _ _ c1 c2 c3 c4).mono ?_
      rintro e w' ⟨rfl, ⟨⟨p', F', G', h', hs'⟩, hb⟩, hc⟩
      exact ⟨rfl, ⟨⟨p', F', G', h', hs'.mono (by omega)⟩, hb⟩, hc⟩
    · by_cases k3 : x.kind = 3
      · rw [k3]
        exact puts_k3 b z N K w0 w p F G hw h hsz (by omega) x.at_ x.tv x.spec.msg x.spec.block x1 x2 x3 x4 _ _ _ _ c1 c2 c3 c4 x.text hA.text rfl hA.n2 (by omega) hN
      · refine (puts_no b z w x.kind x.at_ x.tv x.spec.msg x.spec.block x1 x2 x3 x4 _ _ _ _ c1 c2 c3 c4 k1 k2 k3).mono ?_
        rintro e w' ⟨rfl, hb⟩
        exact ⟨rfl, ⟨⟨p, F, G, h.below hb, hsz.mono (by omega)⟩, hw.trans (hb.mono hw.size)⟩, Chg.of_below hb⟩
theorem lnames_any (b z N K : Nat) (w0 w : World) (p : PProg) (F G : Nat → Prop) (h : St2 w0.heap.size b z w p p F G) (hsz : Sz N p) (hw : Below w0.heap.size w0 w) (x : PAct) (x1 x2 x3 x4 : Option Addr) (c1 c2 c3 c4 : Nat) (hA : ActA w0 x x1 x2 x3 x4 c1 c2 c3 c4) (hK : x.sz ≤ K) (hN : N + K ≤ 4194304) :
    Calls Tryd.prog 12 #[.pointer (some ⟨b, 0, none⟩), .pointer (some ⟨z, 0, none⟩), .agg #[.int .i64 x.kind, .int .i64 x.at_, .int .i64 x.tv, .slice x1 x.code.length c1, .slice x2 x.text.length c2, .slice x3 x.stops.length c3, .int .i64 x.spec.msg, .slice x4 x.spec.routes.length c4, .int .i64 x.spec.block]] w fun e w' => e = .returned (.bool true) ∧ Both w0 b z (N + K) w' ∧ Chg (fun i => F i ∨ G i) w w' := by
  unfold PAct.sz at hK
  by_cases k1 : x.kind = 4
  · rw [k1]
    exact names_k4 b z N K w0 w p F G hw h hsz (by omega) x.at_ x.tv x.spec.msg x.spec.block x1 x2 x3 x4 _ _ _ _ c1 c2 c3 c4 x.stops hA.stops rfl hA.n3 (by omega) hN
  · by_cases k2 : x.kind = 5
    · rw [k2]
      exact names_k5 b z N K w0 w p F G hw h hsz (by omega) x.at_ x.tv x.spec.msg x.spec.block x1 x2 x3 x4 _ _ _ _ c1 c2 c3 c4 x.spec.routes hA.routes rfl hA.n4 (by omega) hN
    · refine (names_no b z w x.kind x.at_ x.tv x.spec.msg x.spec.block x1 x2 x3 x4 _ _ _ _ c1 c2 c3 c4 k1 k2).mono ?_
      rintro e w' ⟨rfl, hb⟩
      exact ⟨rfl, ⟨⟨p, F, G, h.below hb, hsz.mono (by omega)⟩, hw.trans (hb.mono hw.size)⟩, Chg.of_below hb⟩

/-- the two programs are the same, as ref.Same tells it -/
theorem BAt.prgA {F : Nat → Prop} {T : TypeId} {b : Nat} {w : World} {p : PProg} {ca ma ra sa : Option Addr} {cc mc rc sc : Nat} {ms rs ss : List Value} (h : BAt F T b w p (.slice ca p.code.length cc) (.slice ma p.msgs.length mc) (.slice ra p.routes.length rc) (.slice sa p.sends.length sc) ms rs ss) {N : Nat} (hs : Sz N p) (hN : N ≤ 140737488355328) : PrgA w p ca cc ma mc ra rc sa sc := by
  obtain ⟨⟨h1, h2, h3, h4⟩, h5, h6, h7⟩ := hs
  exact ⟨InsA.ofOwn h.code rfl h.ops, MsgsA.ofOwn h.msgs h.msg rfl, RoutesA.ofOwn h.routes h.route rfl, SpecsA.ofOwn h.sends h.send rfl, by omega, by omega, by omega, by omega, fun k x hx => by have := h6 x (List.mem_of_getElem? hx); omega, fun k x hx => by have := h7 x (List.mem_of_getElem? hx); omega⟩
/-- nothing yet -/
theorem BAt.zero {T : TypeId} {b : Nat} {w : World} (h : w.heap[b]? = some (.cells #[.slice none 0 0, .slice none 0 0, .slice none 0 0, .slice none 0 0, .int .i64 0, .int .i64 0, .int .i64 0, .int .i64 0] T (0, 0))) : Bd (fun i => i = b) T b w ⟨[], [], [], [], 0, 0, 0, 0⟩ :=
  ⟨_, _, _, _, [], [], [], h, ⟨rfl, rfl, rfl, rfl⟩, rfl, fun k hk => by rw [hk]; exact (Array.getElem?_eq_some_iff.1 h).1, World.ownsRow_nil _ _ _ _, Foot.none _ _ _, World.ownsRow_nil _ _ _ _, Foot.none _ _ _, OwnR.nil _ _, fun v hv => by simp at hv, World.ownsRow_nil _ _ _ _, Foot.none _ _ _, OwnR.nil _ _, fun v hv => by simp at hv, World.ownsRow_nil _ _ _ _, Foot.none _ _ _, OwnR.nil _ _, fun v hv => by simp at hv, fun x hx => by simp at hx⟩
theorem Sz.zero : Sz 0 ⟨[], [], [], [], 0, 0, 0, 0⟩ := ⟨⟨Nat.le_refl _, Nat.le_refl _, Nat.le_refl _, Nat.le_refl _⟩, fun m hm => by simp at hm, fun m hm => by simp at hm, fun m hm => by simp at hm⟩
end Go.Proofs.YtaijdpckkobofaaDoor
