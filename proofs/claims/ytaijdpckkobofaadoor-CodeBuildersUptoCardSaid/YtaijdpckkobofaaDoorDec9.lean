/- code.Decode, walked. (wip/gen_dec9.py) -/
import Derived.Test.YtaijdpckkobofaaDoorDec8
namespace Go.Proofs.YtaijdpckkobofaaDoor
open Go.RowKit
set_option linter.unusedVariables false

theorem moreR_all {α : Type} {Q : α → Prop} {p : List UInt8 → Option (α × List UInt8)} (hp : ∀ l x l', p l = some (x, l') → Q x) : ∀ (n : Nat) (acc : List α) (l : List UInt8) (xs : List α) (l' : List UInt8), moreR p n acc l = some (xs, l') → (∀ x ∈ acc, Q x) → ∀ x ∈ xs, Q x
  | 0, acc, l, xs, l', h, ha => by
    simp only [moreR, Option.some.injEq, Prod.mk.injEq] at h
    obtain ⟨rfl, rfl⟩ := h
    exact ha
  | n + 1, acc, l, xs, l', h, ha => by
    unfold moreR at h
    split at h
    · cases h
    · rename_i x l1 hx
      refine moreR_all hp n _ _ _ _ h fun y hy => ?_
      rcases List.mem_append.1 hy with hy | hy
      · exact ha y hy
      · simp only [List.mem_singleton] at hy
        subst hy
        exact hp l y l1 hx
theorem moreR_len {α : Type} {p : List UInt8 → Option (α × List UInt8)} : ∀ (n : Nat) (acc : List α) (l : List UInt8) (xs : List α) (l' : List UInt8), moreR p n acc l = some (xs, l') → xs.length = acc.length + n
  | 0, acc, l, xs, l', h => by
    simp only [moreR, Option.some.injEq, Prod.mk.injEq] at h
    obtain ⟨rfl, rfl⟩ := h
    rfl
  | n + 1, acc, l, xs, l', h => by
    unfold moreR at h
    split at h
    · cases h
    · have := moreR_len n _ _ _ _ h
      rw [this]; simp; omega
theorem ins_op {l l' : List UInt8} {x : PIns} (h : insR l = some (x, l')) : x.op ≤ 255 := by
  unfold insR at h
  simp only [Option.bind_eq_some_iff, Option.some.injEq, Prod.mk.injEq, Prod.exists] at h
  obtain ⟨a, l1, h1, b, l2, h2, c, l3, h3, rfl, rfl⟩ := h
  have := (numR_spec h1).2.2.2
  show a ≤ 255
  omega
theorem route_len {l l' : List UInt8} {x : List PStop} (h : routeR l = some (x, l')) : x.length ≤ 255 := by
  unfold routeR at h
  simp only [Option.bind_eq_some_iff, Prod.exists] at h
  obtain ⟨a, l1, h1, h2⟩ := h
  have h3 := (numR_spec h1).2.2.2
  have := moreR_len _ _ _ _ _ h2
  simp at this
  omega
theorem spec_len {l l' : List UInt8} {x : PSpec} (h : specR l = some (x, l')) : x.routes.length ≤ 255 := by
  unfold specR at h
  simp only [Option.bind_eq_some_iff, Option.some.injEq, Prod.mk.injEq, Prod.exists] at h
  obtain ⟨a, l1, h1, b, l2, h2, c, l3, h3, d, l4, h4, rfl, rfl⟩ := h
  have h5 := (numR_spec h2).2.2.2
  have := moreR_len _ _ _ _ _ h3
  simp at this
  show c.length ≤ 255
  omega
theorem prog_facts {l l' : List UInt8} {p : PProg} (h : progR l = some (p, l')) : (∀ x ∈ p.code, x.op ≤ 255) ∧ (p.code.length ≤ 65535 ∧ p.msgs.length ≤ 65535 ∧ p.routes.length ≤ 65535 ∧ p.sends.length ≤ 65535) ∧ (∀ x ∈ p.routes, x.length ≤ 255) ∧ (∀ x ∈ p.sends, x.routes.length ≤ 255) := by
  unfold progR at h
  simp only [Option.bind_eq_some_iff, Prod.exists] at h
  obtain ⟨a, la, ha, b, lb, hb, c, lc, hc, d, ld, hd, e, le, he, f, lf, hf, g, lg, hg, i, li, hi, hB⟩ := h
  have ka := (numR_spec ha).2.2.2
  have kb := (numR_spec hb).2.2.2
  have kc := (numR_spec hc).2.2.2
  have kd := (numR_spec hd).2.2.2
  unfold bodyR at hB
  simp only [Option.bind_eq_some_iff, Option.some.injEq, Prod.mk.injEq, Prod.exists] at hB
  obtain ⟨cc, l1, k1, m, l2, k2, r, l3, k3, q, l4, k4, rfl, rfl⟩ := hB
  have e1 := moreR_len _ _ _ _ _ k1
  have e2 := moreR_len _ _ _ _ _ k2
  have e3 := moreR_len _ _ _ _ _ k3
  have e4 := moreR_len _ _ _ _ _ k4
  simp only [List.length_nil, Nat.zero_add] at e1 e2 e3 e4
  refine ⟨moreR_all (fun l x l' h => ins_op h) _ _ _ _ _ k1 (fun x hx => by simp at hx), ⟨by show cc.length ≤ _; omega, by show m.length ≤ _; omega, by show r.length ≤ _; omega, by show q.length ≤ _; omega⟩, moreR_all (fun l x l' h => route_len h) _ _ _ _ _ k3 (fun x hx => by simp at hx), moreR_all (fun l x l' h => spec_len h) _ _ _ _ _ k4 (fun x hx => by simp at hx)⟩

theorem Step.prog {en e1 e2 e3 e4 e5 e6 e7 e8 e9 : Bool} {x1 x2 x3 x4 x5 x6 x7 x8 : Nat} {l l1 l2 l3 l4 l5 l6 l7 l8 l9 : List UInt8} {p : PProg}
    (h1 : Step en (numR 2 l) e1 x1 l1) (h2 : Step e1 (numR 2 l1) e2 x2 l2) (h3 : Step e2 (numR 2 l2) e3 x3 l3) (h4 : Step e3 (numR 2 l3) e4 x4 l4) (h5 : Step e4 (numR 2 l4) e5 x5 l5) (h6 : Step e5 (numR 2 l5) e6 x6 l6) (h7 : Step e6 (numR 2 l6) e7 x7 l7) (h8 : Step e7 (numR 4 l7) e8 x8 l8)
    (h9 : Step e8 (bodyR x1 x2 x3 x4 x5 x6 x7 x8 l8) e9 p l9) : Step en (progR l) e9 p l9 :=
  h1.bind (γ := Unit) (h2.bind (γ := Unit) (h3.bind (γ := Unit) (h4.bind (γ := Unit) (h5.bind (γ := Unit) (h6.bind (γ := Unit) (h7.bind (γ := Unit) (h8.bind (γ := Unit) h9)))))))

theorem decode_short {bs : List UInt8} (h : takeR 4 (bs.drop 0) = none) : decodeP bs = .inl 2 := by
  unfold takeR at h
  split at h
  · cases h
  · rename_i h4
    rw [List.drop_zero] at h4
    unfold decodeP
    rw [if_pos (by omega)]
theorem take4 {bs x r : List UInt8} (h : takeR 4 (bs.drop 0) = some (x, r)) : 4 ≤ bs.length ∧ x = bs.take 4 ∧ r = bs.drop 4 := by
  obtain ⟨h1, h2, h3, _⟩ := takeR_some h
  rw [List.drop_zero] at h1 h2 h3
  exact ⟨h1, h2, h3⟩
theorem decode_form {bs : List UInt8} (h : 4 ≤ bs.length) (hm : bs.take 4 ≠ magicL) : decodeP bs = .inl 3 := by
  unfold decodeP
  rw [if_neg (by omega), if_pos hm]
theorem decode_none {bs : List UInt8} (h : 4 ≤ bs.length) (hm : bs.take 4 = magicL) (hp : progR (bs.drop 4) = none) : decodeP bs = .inl 2 := by
  unfold decodeP
  rw [if_neg (by omega), if_neg (by rw [hm]; simp), hp]
theorem decode_left {bs r : List UInt8} {p : PProg} (h : 4 ≤ bs.length) (hm : bs.take 4 = magicL) (hp : progR (bs.drop 4) = some (p, r)) (hr : r ≠ []) : decodeP bs = .inl 2 := by
  unfold decodeP
  rw [if_neg (by omega), if_neg (by rw [hm]; simp), hp]
  simp only
  rw [if_pos hr]
theorem decode_check {bs : List UInt8} {p : PProg} (h : 4 ≤ bs.length) (hm : bs.take 4 = magicL) (hp : progR (bs.drop 4) = some (p, [])) (hc : checkP p ≠ 0) : decodeP bs = .inl (checkP p) := by
  unfold decodeP
  rw [if_neg (by omega), if_neg (by rw [hm]; simp), hp]
  simp only
  rw [if_neg (by simp), if_pos hc]
theorem decode_ok {bs : List UInt8} {p : PProg} (h : 4 ≤ bs.length) (hm : bs.take 4 = magicL) (hp : progR (bs.drop 4) = some (p, [])) (hc : checkP p = 0) : decodeP bs = .inr p := by
  unfold decodeP
  rw [if_neg (by omega), if_neg (by rw [hm]; simp), hp]
  simp only
  rw [if_neg (by simp), if_neg (by rw [hc]; simp)]

theorem heap_set_ne {w : World} {k P : Nat} (h : k ≠ P) (o : Nat) (v : Value) : (w.setCell ⟨P, o, none⟩ v).heap[k]? = w.heap[k]? := Below.heap_setCell _ _ _ _ h
theorem alloc_cell {w : World} {k j : Nat} (h : k < w.heap.size) (o : Obj) : (w.alloc o).cell? ⟨k, j, none⟩ = w.cell? ⟨k, j, none⟩ := ((Below.refl w.heap.size w).alloc (Nat.le_refl _) o).cell (p := ⟨k, j, none⟩) h
theorem mcell_set_other {k P : Nat} (h : k ≠ P) (w : World) (o j : Nat) (v : Value) : (w.setCell ⟨P, o, none⟩ v).cell? ⟨k, j, none⟩ = w.cell? ⟨k, j, none⟩ := by
  have : (w.setCell ⟨P, o, none⟩ v).heap[k]? = w.heap[k]? := Below.heap_setCell _ _ _ _ h
  unfold World.cell?
  simp only [this]
theorem set8_heap {w : World} {P : Nat} {a b c d e f g h : Value} {t : TypeId} {fz : Nat × Nat} (k : w.heap[P]? = some (.cells #[a, b, c, d, e, f, g, h] t fz)) (v0 v1 v2 v3 v4 v5 v6 v7 : Value) :
    ((((((((w.setCell ⟨P, 0, none⟩ v0).setCell ⟨P, 1, none⟩ v1).setCell ⟨P, 2, none⟩ v2).setCell ⟨P, 3, none⟩ v3).setCell ⟨P, 4, none⟩ v4).setCell ⟨P, 5, none⟩ v5).setCell ⟨P, 6, none⟩ v6).setCell ⟨P, 7, none⟩ v7).heap[P]? = some (.cells #[v0, v1, v2, v3, v4, v5, v6, v7] t fz) := by
  simp [World.setCell, Array.getElem?_modify, k]
theorem RdS.new8 {b c : Nat} {da : Option Addr} {cap : Nat} {bs : List UInt8} {q : Nat} {en : Bool} {w1 w : World} {P : Nat} (hr : RdS b c da cap bs q en w) (hk : Kp b c w1 w) (hP : w1.heap.size ≤ P) (hb : b < w1.heap.size) (hc : c < w1.heap.size) (v0 v1 v2 v3 v4 v5 v6 v7 : Value) :
    RdS b c da cap bs q en ((((((((w.setCell ⟨P, 0, none⟩ v0).setCell ⟨P, 1, none⟩ v1).setCell ⟨P, 2, none⟩ v2).setCell ⟨P, 3, none⟩ v3).setCell ⟨P, 4, none⟩ v4).setCell ⟨P, 5, none⟩ v5).setCell ⟨P, 6, none⟩ v6).setCell ⟨P, 7, none⟩ v7) ∧ Kp b c w1 ((((((((w.setCell ⟨P, 0, none⟩ v0).setCell ⟨P, 1, none⟩ v1).setCell ⟨P, 2, none⟩ v2).setCell ⟨P, 3, none⟩ v3).setCell ⟨P, 4, none⟩ v4).setCell ⟨P, 5, none⟩ v5).setCell ⟨P, 6, none⟩ v6).setCell ⟨P, 7, none⟩ v7) := by
  obtain ⟨r0, k0⟩ := RdS.new hr hk hP hb hc 0 v0
  obtain ⟨r1, k1⟩ := RdS.new r0 k0 hP hb hc 1 v1
  obtain ⟨r2, k2⟩ := RdS.new r1 k1 hP hb hc 2 v2
  obtain ⟨r3, k3⟩ := RdS.new r2 k2 hP hb hc 3 v3
  obtain ⟨r4, k4⟩ := RdS.new r3 k3 hP hb hc 4 v4
  obtain ⟨r5, k5⟩ := RdS.new r4 k4 hP hb hc 5 v5
  obtain ⟨r6, k6⟩ := RdS.new r5 k5 hP hb hc 6 v6
  exact RdS.new r6 k6 hP hb hc 7 v7
/-- the result's cell: nothing in it yet -/
def ZeroAt (R : Nat) (w : World) : Prop := w.heap[R]? = some (.cells #[.slice none 0 0, .slice none 0 0, .slice none 0 0, .slice none 0 0, .int .i64 0, .int .i64 0, .int .i64 0, .int .i64 0] 28 (0, 0))
theorem below_setR {w0 w : World} {R : Nat} (h : Below w0.heap.size w0 w) (hR : w0.heap.size ≤ R) (v0 v1 v2 v3 v4 v5 v6 v7 : Value) :
    Below w0.heap.size w0 ((((((((w.setCell ⟨R, 0, none⟩ v0).setCell ⟨R, 1, none⟩ v1).setCell ⟨R, 2, none⟩ v2).setCell ⟨R, 3, none⟩ v3).setCell ⟨R, 4, none⟩ v4).setCell ⟨R, 5, none⟩ v5).setCell ⟨R, 6, none⟩ v6).setCell ⟨R, 7, none⟩ v7) :=
  (((((((h.setCell (p := ⟨R, 0, none⟩) hR v0).setCell (p := ⟨R, 1, none⟩) hR v1).setCell (p := ⟨R, 2, none⟩) hR v2).setCell (p := ⟨R, 3, none⟩) hR v3).setCell (p := ⟨R, 4, none⟩) hR v4).setCell (p := ⟨R, 5, none⟩) hR v5).setCell (p := ⟨R, 6, none⟩) hR v6).setCell (p := ⟨R, 7, none⟩) hR v7

theorem OwnR.base {α : Type} {e : TypeId} {size : Nat} {ln : α → Nat} {cs : α → List Value} {B B' : Nat} {w : World} {vs : List Value} {ms : List α} (hB : B' ≤ B) (h : OwnR e size ln cs B w vs ms) : OwnR e size ln cs B' w vs ms :=
  ⟨h.len, fun k v m hv hm => mown_base hB (h.own k v m hv hm), h.apart⟩
/-- behind instrs and msgs -/
def MidA (b c P N : Nat) (da : Option Addr) (cap : Nat) (bs : List UInt8) (w w4 : World) (x1 x2 x3 x4 x5 x6 x7 x8 p8 : Nat) (e8 : Bool) (wx : World) : Prop :=
  ∃ (a9 a10 : Option Addr) (c9 c10 : Nat) (cs : List PIns) (ms : List (List UInt8)) (vs : List Value) (p10 : Nat) (e9 e10 : Bool) (l9 : List UInt8),
    wx.heap[P]? = some (.cells #[.slice a9 cs.length c9, .slice a10 vs.length c10, .slice none 0 0, .slice none 0 0, .int .i64 x5, .int .i64 x6, .int .i64 x7, .int .i64 x8] 28 (0, 0)) ∧
    wx.ownsRow w.heap.size 33 3 (.slice a9 cs.length c9) cs.length (pinsCells cs) ∧ wx.ownsRow w.heap.size 35 1 (.slice a10 vs.length c10) vs.length vs ∧ OwnMs w.heap.size wx vs ms ∧
    RdS b c da cap bs p10 e10 wx ∧ Kp b c w4 wx ∧ Step e8 (moreR insR x1 [] (bs.drop p8)) e9 cs l9 ∧ Step e9 (moreR msgR x2 [] l9) e10 ms (bs.drop p10) ∧ wx.heap[N]? = some (.cells #[.int .i64 x1, .int .i64 x2, .int .i64 x3, .int .i64 x4, .int .i64 x5, .int .i64 x6, .int .i64 x7] 105 (0, 0))

/-- behind routes and sends -/
def MidB (b c P : Nat) (da : Option Addr) (cap : Nat) (bs : List UInt8) (w w4 : World) (x1 x2 x3 x4 x5 x6 x7 x8 p8 : Nat) (e8 : Bool) (wx : World) : Prop :=
  ∃ (a9 a10 a11 a12 : Option Addr) (c9 c10 c11 c12 : Nat) (p : PProg) (vs us ts : List Value) (p12 : Nat) (e12 : Bool),
    wx.heap[P]? = some (.cells #[.slice a9 p.code.length c9, .slice a10 p.msgs.length c10, .slice a11 p.routes.length c11, .slice a12 p.sends.length c12, .int .i64 p.vars, .int .i64 p.stack, .int .i64 p.blocks, .int .i64 p.fuel] 28 (0, 0)) ∧
    wx.ownsRow w.heap.size 33 3 (.slice a9 p.code.length c9) p.code.length (pinsCells p.code) ∧ wx.ownsRow w.heap.size 35 1 (.slice a10 p.msgs.length c10) p.msgs.length vs ∧ OwnMs w.heap.size wx vs p.msgs ∧
    wx.ownsRow w.heap.size 36 1 (.slice a11 p.routes.length c11) p.routes.length us ∧ OwnRs w.heap.size wx us p.routes ∧ wx.ownsRow w.heap.size 39 3 (.slice a12 p.sends.length c12) p.sends.length (specCells p.sends ts) ∧ OwnSs w.heap.size wx ts p.sends ∧
    RdS b c da cap bs p12 e12 wx ∧ Kp b c w4 wx ∧ Step e8 (bodyR x1 x2 x3 x4 x5 x6 x7 x8 (bs.drop p8)) e12 p (bs.drop p12)

theorem OwnPrg.map {B : Nat} {w w' : World} {p : PProg} {ca ma ra sa : Option Addr} {cc mc rc sc : Nat} (h : OwnPrg B w p ca ma ra sa cc mc rc sc) (k : ∀ (e : TypeId) size v n xs, e ≠ 28 → w.ownsRow B e size v n xs → w'.ownsRow B e size v n xs) : OwnPrg B w' p ca ma ra sa cc mc rc sc := by
  obtain ⟨vs, h1, h2⟩ := h.msgs
  obtain ⟨us, h3, h4⟩ := h.routes
  obtain ⟨ts, h5, h6⟩ := h.sends
  exact ⟨k _ _ _ _ _ (by decide) h.code, ⟨vs, k _ _ _ _ _ (by decide) h1, h2.map fun v m ho => k _ _ _ _ _ (by decide) ho⟩, ⟨us, k _ _ _ _ _ (by decide) h3, h4.map fun v m ho => k _ _ _ _ _ (by decide) ho⟩, ⟨ts, k _ _ _ _ _ (by decide) h5, h6.map fun v m ho => k _ _ _ _ _ (by decide) ho⟩, h.ops, h.big, h.rl, h.sl⟩
theorem OwnPrg.below {B : Nat} {w w' : World} {p : PProg} {ca ma ra sa : Option Addr} {cc mc rc sc : Nat} (h : OwnPrg B w p ca ma ra sa cc mc rc sc) (b : Below w.heap.size w w') : OwnPrg B w' p ca ma ra sa cc mc rc sc :=
  h.map fun e size v n xs _ ho => ownsRow_old ho b
theorem own_set8 {w : World} {R : Nat} (h : ZeroAt R w) {B : Nat} {e : TypeId} {size : Nat} {v : Value} {n : Nat} {xs : List Value} (ho : w.ownsRow B e size v n xs) (hne : 28 ≠ e) (v0 v1 v2 v3 v4 v5 v6 v7 : Value) :
    ((((((((w.setCell ⟨R, 0, none⟩ v0).setCell ⟨R, 1, none⟩ v1).setCell ⟨R, 2, none⟩ v2).setCell ⟨R, 3, none⟩ v3).setCell ⟨R, 4, none⟩ v4).setCell ⟨R, 5, none⟩ v5).setCell ⟨R, 6, none⟩ v6).setCell ⟨R, 7, none⟩ v7).ownsRow B e size v n xs := by
  have g0 := setk_heap (i := 0) h v0
  have o0 := own_set h ho hne 0 v0
  have g1 := setk_heap (i := 1) g0 v1
  have o1 := own_set g0 o0 hne 1 v1
  have g2 := setk_heap (i := 2) g1 v2
  have o2 := own_set g1 o1 hne 2 v2
  have g3 := setk_heap (i := 3) g2 v3
  have o3 := own_set g2 o2 hne 3 v3
  have g4 := setk_heap (i := 4) g3 v4
  have o4 := own_set g3 o3 hne 4 v4
  have g5 := setk_heap (i := 5) g4 v5
  have o5 := own_set g4 o4 hne 5 v5
  have g6 := setk_heap (i := 6) g5 v6
  have o6 := own_set g5 o5 hne 6 v6
  exact own_set g6 o6 hne 7 v7

set_option maxRecDepth 100000 in
set_option maxHeartbeats 2000000 in
theorem decode_any (a : Option Addr) (n cp : Nat) (bs : List UInt8) (w : World) (hA : BsA w a bs) (hn : bs.length = n) (hb : n ≤ 140737488355328) :
    Calls Tryd.prog 14 #[.slice a n cp] w (DecOut bs w) := by
  obtain ⟨w1, R, hw1, hR⟩ : ∃ w1 R, w.alloc (.cells #[.slice none 0 0, .slice none 0 0, .slice none 0 0, .slice none 0 0, .int .i64 0, .int .i64 0, .int .i64 0, .int .i64 0] 28) = w1 ∧ w.heap.size = R := ⟨_, _, rfl, rfl⟩
  have hb1 : Below w.heap.size w w1 := by rw [← hw1]; exact (Below.refl _ _).alloc (Nat.le_refl _) _
  have hz1 : ZeroAt R w1 := by unfold ZeroAt; rw [← hw1, ← hR]; exact heap_new _ _
  have HC := Lib.hid (newCursor a cp n bs w1 (hA.below hb1) hn hb)
  have HB1 := Lib.hid hb1
  have HZ1 := Lib.hid hz1
  have hRw : w.heap.size ≤ R := by omega
  have hR1 : R < w1.heap.size := (Array.getElem?_eq_some_iff.1 hz1).1
  have hbl : bs.length ≤ 140737488355328 := by omega
  have Hw1 := Lib.hid hw1
  have HR := Lib.hid hR
  clear hA hb1 hz1 hn hw1 hR
  go_enter Tryd.func14, Tryd.ntmps14
  go_upto_region 1 with fail
  rw [Hw1.out, HR.out]
  clear Hw1
  go_wp2_with fail
  refine HC.out.mono ?_
  rintro e w2 ⟨c, da, cap, rfl, hc1, hc2, hA2, hcl, hnil, hdl, hb2⟩
  clear HC
  obtain ⟨w3, b, hw3, hbb⟩ : ∃ w3 b, w2.alloc (.cells #[.pointer (some ⟨c, 0, none⟩), .bool false] 103) = w3 ∧ w2.heap.size = b := ⟨_, _, rfl, rfl⟩
  have hc2l : c < w2.heap.size := (Array.getElem?_eq_some_iff.1 hc2).1
  have hb3 : Below w2.heap.size w2 w3 := by rw [← hw3]; exact (Below.refl _ _).alloc (Nat.le_refl _) _
  have hr3 : RdS b c da cap bs 0 false w3 := ⟨by rw [← hw3, ← hbb]; exact heap_new _ _, (hb3.block c hc2l).trans hc2, by omega, hA2.below hb3, hcl, hbl, hdl, hnil, by omega⟩
  have hz3 : ZeroAt R w3 := (hb3.block R (by have := hb2.size; omega)).trans ((hb2.block R hR1).trans HZ1.out)
  have HB3 := Lib.hid (HB1.out.trans ((hb2.trans (hb3.mono hb2.size)).mono HB1.out.size))
  have HR3 := Lib.hid hr3
  have HZ3 := Lib.hid hz3
  have hRb : R ≠ b := by have := hb2.size; omega
  have hRc : R ≠ c := by omega
  have hcw : w.heap.size ≤ c := by have := HB1.out.size; omega
  have HT := Lib.hid (rtake b c da cap bs 4 0 false w3 hr3)
  have Hw3 := Lib.hid hw3
  have Hbb := Lib.hid hbb
  clear hc2 hA2 hb2 hb3 hr3 hz3 hw3 hbb
  go_upto_region 2 with fail
  rw [Hw3.out, Hbb.out]
  clear Hw3 Hbb
  go_wp2_with fail
  refine HT.out.mono ?_
  rintro e w4 ⟨v4, x4, q4, e4, rfl, ho4, hr4, hk4, hs4⟩
  have hR3 : R < w3.heap.size := (Array.getElem?_eq_some_iff.1 HZ3.out).1
  have hz4 : ZeroAt R w4 := (hk4.oth R hR3 hRb hRc).trans HZ3.out
  have HK4 := Lib.hid hk4
  have HR4 := Lib.hid hr4
  have HZ4 := Lib.hid hz4
  have HB4 := Lib.hid (HB3.out.trans (hk4.below.mono hcw))
  have b1 : w4.cell? ⟨b, 1, none⟩ = some (.bool e4) := (Lib.cell_of_heap hr4.hb _).trans rfl
  clear HT hk4 hr4 HK4
  cases e4
  · obtain ⟨_, hx4⟩ := hs4.ok
    obtain ⟨h4, hxe, hqe⟩ := take4 hx4
    have hcv := mconv_own ho4
    obtain ⟨a4, c4, rfl⟩ := own_slice_n ho4
    clear hs4 hx4 ho4
    by_cases hm : x4 = magicL
    · have hm4 : bs.take 4 = magicL := by rw [← hxe, hm]
      have HM4 := Lib.hid hm4
      have HQE := Lib.hid hqe
      have hcv' : (convert 35 9 (.slice a4 x4.length c4)).run Tryd.prog w4 = .ok (.string ⟨#[115, 104, 108, 49]⟩) w4 := by rw [hcv, hm]; rfl
      clear hcv hxe hm hm4 hqe
      obtain ⟨wn, N, hwn, hN⟩ : ∃ wn N, w4.alloc (.cells #[.int .i64 0, .int .i64 0, .int .i64 0, .int .i64 0, .int .i64 0, .int .i64 0, .int .i64 0] 105) = wn ∧ w4.heap.size = N := ⟨_, _, rfl, rfl⟩
      have hbn : Below w4.heap.size w4 wn := by rw [← hwn]; exact (Below.refl _ _).alloc (Nat.le_refl _) _
      have hn0 : wn.heap[N]? = some (.cells #[.int .i64 0, .int .i64 0, .int .i64 0, .int .i64 0, .int .i64 0, .int .i64 0, .int .i64 0] 105 (0, 0)) := by rw [← hwn, ← hN]; exact heap_new _ _
      have hr0 := HR4.out.below hbn
      have hNb : N ≠ b := by have := HR4.out.bl; omega
      have hNc : N ≠ c := by have := HR4.out.cl'; omega
      have hNR : R ≠ N := by have := (Array.getElem?_eq_some_iff.1 HZ4.out).1; omega
      have hNl : N < wn.heap.size := (Array.getElem?_eq_some_iff.1 hn0).1
      have hRn : R < wn.heap.size := by have := (Array.getElem?_eq_some_iff.1 HZ4.out).1; have := hbn.size; omega
      have hzn : ZeroAt R wn := (hbn.block R (Array.getElem?_eq_some_iff.1 HZ4.out).1).trans HZ4.out
      have HZn := Lib.hid hzn
      have HBn := Lib.hid (HB4.out.trans (hbn.mono HB4.out.size))
      have HRn := Lib.hid hr0
      have hc4 : c < w4.heap.size := HR4.out.cl'
      have hb4 : b < w4.heap.size := HR4.out.bl
      have hN4 : w4.heap.size ≤ N := by omega
      have HKn := Lib.hid (HR4.out.kpOf hbn)
      have hcbl : c < b := hr0.lt
      have HNn := Lib.hid hn0
      have hwN : w.heap.size ≤ N := by have := HB4.out.size; omega
      have Hwn := Lib.hid hwn
      have HNe := Lib.hid hN
      clear hbn hn0 hr0 hwn hN hz4 hzn
      go_upto_region 8 with fail
      rw [Hwn.out, HNe.out]
      clear Hwn HNe hcv' b1
      go_wp2_with fail
      refine wp_loop_rounds 8 ?_
      have HK_0 := HKn
      have HKN_0 := Lib.hid HNn.out
      have HRd_0 := Lib.hid HRn.out
      rw [rounds_succ]
      have HN_1 := Lib.hid (rnum b c da cap bs 2 q4 2 false wn HRd_0.out (by omega) (by omega) rfl)
      go_wp2_with fail
      refine HN_1.out.mono ?_
      rintro e u1 ⟨x1, p1, e1, rfl, hx, hr, hk, hs⟩
      have hx1 : x1 < 65536 := hx
      have hn := (hk.oth N (Array.getElem?_eq_some_iff.1 HKN_0.out).1 hNb hNc).trans HKN_0.out
      have hkk := HK_0.out.trans hk
      have cN : u1.cell? ⟨N, 0, none⟩ = some (.int .i64 0) := (Lib.cell_of_heap hn _).trans rfl
      have fN := Lib.frozen_of_heap hn 0
      have HS_1 := Lib.hid hs
      obtain ⟨hr', hk'⟩ := RdS.new hr hkk hN4 hb4 hc4 0 (.int .i64 x1)
      have hn' : (u1.setCell ⟨N, 0, none⟩ (.int .i64 x1)).heap[N]? = some (.cells #[.int .i64 x1, .int .i64 0, .int .i64 0, .int .i64 0, .int .i64 0, .int .i64 0, .int .i64 0] 105 (0, 0)) := setk_heap hn _
      obtain ⟨v1, hv⟩ : ∃ v, u1.setCell ⟨N, 0, none⟩ (.int .i64 x1) = v := ⟨_, rfl⟩
      rw [hv] at hr' hk' hn'
      have HRd_1 := Lib.hid hr'
      have HK_1 := Lib.hid hk'
      have HKN_1 := Lib.hid hn'
      have HV := Lib.hid hv
      clear hx hr hk hs hn hkk hr' hk' hn' hv HN_1
      go_wp2_with fail
      rw [HV.out]
      clear HV cN fN
      rw [rounds_succ]
      have HN_2 := Lib.hid (rnum b c da cap bs 2 p1 2 e1 v1 HRd_1.out (by omega) (by omega) rfl)
      go_wp2_with fail
      refine HN_2.out.mono ?_
      rintro e u2 ⟨x2, p2, e2, rfl, hx, hr, hk, hs⟩
      have hx2 : x2 < 65536 := hx
      have hn := (hk.oth N (Array.getElem?_eq_some_iff.1 HKN_1.out).1 hNb hNc).trans HKN_1.out
      have hkk := HK_1.out.trans hk
      have cN : u2.cell? ⟨N, 1, none⟩ = some (.int .i64 0) := (Lib.cell_of_heap hn _).trans rfl
      have fN := Lib.frozen_of_heap hn 1
      have HS_2 := Lib.hid hs
      obtain ⟨hr', hk'⟩ := RdS.new hr hkk hN4 hb4 hc4 1 (.int .i64 x2)
      have hn' : (u2.setCell ⟨N, 1, none⟩ (.int .i64 x2)).heap[N]? = some (.cells #[.int .i64 x1, .int .i64 x2, .int .i64 0, .int .i64 0, .int .i64 0, .int .i64 0, .int .i64 0] 105 (0, 0)) := setk_heap hn _
      obtain ⟨v2, hv⟩ : ∃ v, u2.setCell ⟨N, 1, none⟩ (.int .i64 x2) = v := ⟨_, rfl⟩
      rw [hv] at hr' hk' hn'
      have HRd_2 := Lib.hid hr'
      have HK_2 := Lib.hid hk'
      have HKN_2 := Lib.hid hn'
      have HV := Lib.hid hv
      clear hx hr hk hs hn hkk hr' hk' hn' hv HN_2
      go_wp2_with fail
      rw [HV.out]
      clear HV cN fN
      rw [rounds_succ]
      have HN_3 := Lib.hid (rnum b c da cap bs 2 p2 2 e2 v2 HRd_2.out (by omega) (by omega) rfl)
      go_wp2_with fail
      refine HN_3.out.mono ?_
      rintro e u3 ⟨x3, p3, e3, rfl, hx, hr, hk, hs⟩
      have hx3 : x3 < 65536 := hx
      have hn := (hk.oth N (Array.getElem?_eq_some_iff.1 HKN_2.out).1 hNb hNc).trans HKN_2.out
      have hkk := HK_2.out.trans hk
      have cN : u3.cell? ⟨N, 2, none⟩ = some (.int .i64 0) := (Lib.cell_of_heap hn _).trans rfl
      have fN := Lib.frozen_of_heap hn 2
      have HS_3 := Lib.hid hs
      obtain ⟨hr', hk'⟩ := RdS.new hr hkk hN4 hb4 hc4 2 (.int .i64 x3)
      have hn' : (u3.setCell ⟨N, 2, none⟩ (.int .i64 x3)).heap[N]? = some (.cells #[.int .i64 x1, .int .i64 x2, .int .i64 x3, .int .i64 0, .int .i64 0, .int .i64 0, .int .i64 0] 105 (0, 0)) := setk_heap hn _
      obtain ⟨v3, hv⟩ : ∃ v, u3.setCell ⟨N, 2, none⟩ (.int .i64 x3) = v := ⟨_, rfl⟩
      rw [hv] at hr' hk' hn'
      have HRd_3 := Lib.hid hr'
      have HK_3 := Lib.hid hk'
      have HKN_3 := Lib.hid hn'
      have HV := Lib.hid hv
      clear hx hr hk hs hn hkk hr' hk' hn' hv HN_3
      go_wp2_with fail
      rw [HV.out]
      clear HV cN fN
      rw [rounds_succ]
      have HN_4 := Lib.hid (rnum b c da cap bs 2 p3 2 e3 v3 HRd_3.out (by omega) (by omega) rfl)
      go_wp2_with fail
      refine HN_4.out.mono ?_
      rintro e u4 ⟨x4, p4, e4, rfl, hx, hr, hk, hs⟩
      have hx4 : x4 < 65536 := hx
      have hn := (hk.oth N (Array.getElem?_eq_some_iff.1 HKN_3.out).1 hNb hNc).trans HKN_3.out
      have hkk := HK_3.out.trans hk
      have cN : u4.cell? ⟨N, 3, none⟩ = some (.int .i64 0) := (Lib.cell_of_heap hn _).trans rfl
      have fN := Lib.frozen_of_heap hn 3
      have HS_4 := Lib.hid hs
      obtain ⟨hr', hk'⟩ := RdS.new hr hkk hN4 hb4 hc4 3 (.int .i64 x4)
      have hn' : (u4.setCell ⟨N, 3, none⟩ (.int .i64 x4)).heap[N]? = some (.cells #[.int .i64 x1, .int .i64 x2, .int .i64 x3, .int .i64 x4, .int .i64 0, .int .i64 0, .int .i64 0] 105 (0, 0)) := setk_heap hn _
      obtain ⟨v4, hv⟩ : ∃ v, u4.setCell ⟨N, 3, none⟩ (.int .i64 x4) = v := ⟨_, rfl⟩
      rw [hv] at hr' hk' hn'
      have HRd_4 := Lib.hid hr'
      have HK_4 := Lib.hid hk'
      have HKN_4 := Lib.hid hn'
      have HV := Lib.hid hv
      clear hx hr hk hs hn hkk hr' hk' hn' hv HN_4
      go_wp2_with fail
      rw [HV.out]
      clear HV cN fN
      rw [rounds_succ]
      have HN_5 := Lib.hid (rnum b c da cap bs 2 p4 2 e4 v4 HRd_4.out (by omega) (by omega) rfl)
      go_wp2_with fail
      refine HN_5.out.mono ?_
      rintro e u5 ⟨x5, p5, e5, rfl, hx, hr, hk, hs⟩
      have hx5 : x5 < 65536 := hx
      have hn := (hk.oth N (Array.getElem?_eq_some_iff.1 HKN_4.out).1 hNb hNc).trans HKN_4.out
      have hkk := HK_4.out.trans hk
      have cN : u5.cell? ⟨N, 4, none⟩ = some (.int .i64 0) := (Lib.cell_of_heap hn _).trans rfl
      have fN := Lib.frozen_of_heap hn 4
      have HS_5 := Lib.hid hs
      obtain ⟨hr', hk'⟩ := RdS.new hr hkk hN4 hb4 hc4 4 (.int .i64 x5)
      have hn' : (u5.setCell ⟨N, 4, none⟩ (.int .i64 x5)).heap[N]? = some (.cells #[.int .i64 x1, .int .i64 x2, .int .i64 x3, .int .i64 x4, .int .i64 x5, .int .i64 0, .int .i64 0] 105 (0, 0)) := setk_heap hn _
      obtain ⟨v5, hv⟩ : ∃ v, u5.setCell ⟨N, 4, none⟩ (.int .i64 x5) = v := ⟨_, rfl⟩
      rw [hv] at hr' hk' hn'
      have HRd_5 := Lib.hid hr'
      have HK_5 := Lib.hid hk'
      have HKN_5 := Lib.hid hn'
      have HV := Lib.hid hv
      clear hx hr hk hs hn hkk hr' hk' hn' hv HN_5
      go_wp2_with fail
      rw [HV.out]
      clear HV cN fN
      rw [rounds_succ]
      have HN_6 := Lib.hid (rnum b c da cap bs 2 p5 2 e5 v5 HRd_5.out (by omega) (by omega) rfl)
      go_wp2_with fail
      refine HN_6.out.mono ?_
      rintro e u6 ⟨x6, p6, e6, rfl, hx, hr, hk, hs⟩
      have hx6 : x6 < 65536 := hx
      have hn := (hk.oth N (Array.getElem?_eq_some_iff.1 HKN_5.out).1 hNb hNc).trans HKN_5.out
      have hkk := HK_5.out.trans hk
      have cN : u6.cell? ⟨N, 5, none⟩ = some (.int .i64 0) := (Lib.cell_of_heap hn _).trans rfl
      have fN := Lib.frozen_of_heap hn 5
      have HS_6 := Lib.hid hs
      obtain ⟨hr', hk'⟩ := RdS.new hr hkk hN4 hb4 hc4 5 (.int .i64 x6)
      have hn' : (u6.setCell ⟨N, 5, none⟩ (.int .i64 x6)).heap[N]? = some (.cells #[.int .i64 x1, .int .i64 x2, .int .i64 x3, .int .i64 x4, .int .i64 x5, .int .i64 x6, .int .i64 0] 105 (0, 0)) := setk_heap hn _
      obtain ⟨v6, hv⟩ : ∃ v, u6.setCell ⟨N, 5, none⟩ (.int .i64 x6) = v := ⟨_, rfl⟩
      rw [hv] at hr' hk' hn'
      have HRd_6 := Lib.hid hr'
      have HK_6 := Lib.hid hk'
      have HKN_6 := Lib.hid hn'
      have HV := Lib.hid hv
      clear hx hr hk hs hn hkk hr' hk' hn' hv HN_6
      go_wp2_with fail
      rw [HV.out]
      clear HV cN fN
      rw [rounds_succ]
      have HN_7 := Lib.hid (rnum b c da cap bs 2 p6 2 e6 v6 HRd_6.out (by omega) (by omega) rfl)
      go_wp2_with fail
      refine HN_7.out.mono ?_
      rintro e u7 ⟨x7, p7, e7, rfl, hx, hr, hk, hs⟩
      have hx7 : x7 < 65536 := hx
      have hn := (hk.oth N (Array.getElem?_eq_some_iff.1 HKN_6.out).1 hNb hNc).trans HKN_6.out
      have hkk := HK_6.out.trans hk
      have cN : u7.cell? ⟨N, 6, none⟩ = some (.int .i64 0) := (Lib.cell_of_heap hn _).trans rfl
      have fN := Lib.frozen_of_heap hn 6
      have HS_7 := Lib.hid hs
      obtain ⟨hr', hk'⟩ := RdS.new hr hkk hN4 hb4 hc4 6 (.int .i64 x7)
      have hn' : (u7.setCell ⟨N, 6, none⟩ (.int .i64 x7)).heap[N]? = some (.cells #[.int .i64 x1, .int .i64 x2, .int .i64 x3, .int .i64 x4, .int .i64 x5, .int .i64 x6, .int .i64 x7] 105 (0, 0)) := setk_heap hn _
      obtain ⟨v7, hv⟩ : ∃ v, u7.setCell ⟨N, 6, none⟩ (.int .i64 x7) = v := ⟨_, rfl⟩
      rw [hv] at hr' hk' hn'
      have HRd_7 := Lib.hid hr'
      have HK_7 := Lib.hid hk'
      have HKN_7 := Lib.hid hn'
      have HV := Lib.hid hv
      clear hx hr hk hs hn hkk hr' hk' hn' hv HN_7
      go_wp2_with fail
      rw [HV.out]
      clear HV cN fN
      rw [rounds_succ]
      go_wp2_with fail
      have HN_8 : Hid (∀ W, Below v7.heap.size v7 W → Calls Tryd.prog 47 #[.pointer (some ⟨b, 0, none⟩), .int .i64 4] W (NumOut b c da cap bs 4 p7 e7 W)) := Lib.hid (fun W hW => rnum b c da cap bs 4 p7 4 e7 W (HRd_7.out.below hW) (by omega) (by omega) rfl)
      have n4 : v7.cell? ⟨N, 4, none⟩ = some (.int .i64 x5) := (Lib.cell_of_heap HKN_7.out _).trans rfl
      have n5 : v7.cell? ⟨N, 5, none⟩ = some (.int .i64 x6) := (Lib.cell_of_heap HKN_7.out _).trans rfl
      have n6 : v7.cell? ⟨N, 6, none⟩ = some (.int .i64 x7) := (Lib.cell_of_heap HKN_7.out _).trans rfl
      have hN7 : N < v7.heap.size := (Array.getElem?_eq_some_iff.1 HKN_7.out).1
      have hv7b : v7.heap.size ≠ b := by have := HRd_7.out.bl; omega
      have hv7c : v7.heap.size ≠ c := by have := HRd_7.out.cl'; omega
      have hNP : N ≠ v7.heap.size := by omega
      have hv7bl : b < v7.heap.size := HRd_7.out.bl
      have hv7cl : c < v7.heap.size := HRd_7.out.cl'
      go_cut [8] (fun s8 wx => ∃ (P x8 p8 : Nat) (e8 : Bool), s8 = .pointer (some ⟨P, 0, none⟩) ∧ v7.heap.size ≤ P ∧ wx.heap[P]? = some (.cells #[.slice none 0 0, .slice none 0 0, .slice none 0 0, .slice none 0 0, .int .i64 x5, .int .i64 x6, .int .i64 x7, .int .i64 x8] 28 (0, 0)) ∧ RdS b c da cap bs p8 e8 wx ∧ Kp b c v7 wx ∧ Step e7 (numR 4 (bs.drop p7)) e8 x8 (bs.drop p8))
      case first =>
        go_region_held3 (fun w' => w'.cell? ⟨N, 4, none⟩ = some (.int .i64 x5) ∧ w'.cell? ⟨N, 5, none⟩ = some (.int .i64 x6) ∧ w'.cell? ⟨N, 6, none⟩ = some (.int .i64 x7)) (first | go_keep | (refine ⟨?_, ?_, ?_⟩ <;> simp only [mcell_set_other hNP, n48, n58, n68])) (first
          | (go_at_call 47; refine (HN_8.out _ (by exact Below.drew (Below.refl _ _))).mono ?_; rintro e u8 ⟨x8, p8, e8, rfl, hx8, hr8, hk8d, hs8⟩; have hk8 : Kp b c v7 u8 := Kp.trans (HRd_7.out.kpOf (Below.drew (Below.refl _ _))) hk8d; have hN8 : N < u8.heap.size := Nat.lt_of_lt_of_le hN7 hk8.below.size; have n48 := (hk8.cell hN7 hNb hNc).trans n4; have n58 := (hk8.cell hN7 hNb hNc).trans n5; have n68 := (hk8.cell hN7 hNb hNc).trans n6)
          | (go_at_call 47; refine (HN_8.out _ (by exact Below.drew ((Below.refl _ _).alloc (Nat.le_refl _) _))).mono ?_; rintro e u8 ⟨x8, p8, e8, rfl, hx8, hr8, hk8d, hs8⟩; have hk8 : Kp b c v7 u8 := Kp.trans (HRd_7.out.kpOf (Below.drew ((Below.refl _ _).alloc (Nat.le_refl _) _))) hk8d; have hN8 : N < u8.heap.size := Nat.lt_of_lt_of_le hN7 hk8.below.size; have n48 := (hk8.cell hN7 hNb hNc).trans n4; have n58 := (hk8.cell hN7 hNb hNc).trans n5; have n68 := (hk8.cell hN7 hNb hNc).trans n6; have hP8 := (hk8d.oth v7.heap.size (by show _ < (World.alloc _ _).heap.size; rw [World.size_alloc]; omega) hv7b hv7c).trans (heap_new _ _); have g0 : u8.cell? ⟨v7.heap.size, 0, none⟩ = some (.slice none 0 0) := (Lib.cell_of_heap hP8 _).trans rfl; have h0 := Lib.frozen_of_heap hP8 0; have g1 : u8.cell? ⟨v7.heap.size, 1, none⟩ = some (.slice none 0 0) := (Lib.cell_of_heap hP8 _).trans rfl; have h1 := Lib.frozen_of_heap hP8 1; have g2 : u8.cell? ⟨v7.heap.size, 2, none⟩ = some (.slice none 0 0) := (Lib.cell_of_heap hP8 _).trans rfl; have h2 := Lib.frozen_of_heap hP8 2; have g3 : u8.cell? ⟨v7.heap.size, 3, none⟩ = some (.slice none 0 0) := (Lib.cell_of_heap hP8 _).trans rfl; have h3 := Lib.frozen_of_heap hP8 3; have g4 : u8.cell? ⟨v7.heap.size, 4, none⟩ = some (.int .i64 0) := (Lib.cell_of_heap hP8 _).trans rfl; have h4 := Lib.frozen_of_heap hP8 4; have g5 : u8.cell? ⟨v7.heap.size, 5, none⟩ = some (.int .i64 0) := (Lib.cell_of_heap hP8 _).trans rfl; have h5 := Lib.frozen_of_heap hP8 5; have g6 : u8.cell? ⟨v7.heap.size, 6, none⟩ = some (.int .i64 0) := (Lib.cell_of_heap hP8 _).trans rfl; have h6 := Lib.frozen_of_heap hP8 6; have g7 : u8.cell? ⟨v7.heap.size, 7, none⟩ = some (.int .i64 0) := (Lib.cell_of_heap hP8 _).trans rfl; have h7 := Lib.frozen_of_heap hP8 7))
        · go_wp2_with fail
          go_meet
          exact ⟨u8.heap.size, x8, p8, e8, rfl, hk8.below.size, heap_new _ _, hr8.below ((Below.refl _ _).alloc (Nat.le_refl _) _), hk8.trans (hr8.kpOf ((Below.refl _ _).alloc (Nat.le_refl _) _)), hs8⟩
        · go_wp2_with fail
          go_meet
          exact ⟨v7.heap.size, x8, p8, e8, rfl, Nat.le_refl _, set8_heap hP8 _ _ _ _ _ _ _ _, (RdS.new8 hr8 hk8 (Nat.le_refl _) hv7bl hv7cl _ _ _ _ _ _ _ _).1, (RdS.new8 hr8 hk8 (Nat.le_refl _) hv7bl hv7cl _ _ _ _ _ _ _ _).2, hs8⟩
      case rest =>
        obtain ⟨P, x8, p8, e8, rfl, hP7, hhP, hr8, hk8, hs8⟩ := hcut
        obtain ⟨w8, hw8⟩ : ∃ w8 : World, wc = w8 := ⟨_, rfl⟩
        rw [hw8] at hhP hr8 hk8 ⊢
        clear hw8
        have hPb : P ≠ b := by omega
        have hPc : P ≠ c := by omega
        have hPN : N ≠ P := by omega
        have hP4 : w4.heap.size ≤ P := by have := HK_7.out.below.size; omega
        have hwP : w.heap.size ≤ P := by have := HB4.out.size; omega
        have hP8 : P < w8.heap.size := (Array.getElem?_eq_some_iff.1 hhP).1
        have hN8 : N < w8.heap.size := by have := hk8.below.size; omega
        have hw48 : w.heap.size ≤ w8.heap.size := by omega
        have HS_8 := Lib.hid hs8
        have HR_8 := Lib.hid hr8
        have HK_8 := Lib.hid (HK_7.out.trans hk8)
        have HP_8 := Lib.hid hhP
        have HN_8c := Lib.hid ((hk8.oth N hN7 hNb hNc).trans HKN_7.out)
        have n0 : w8.cell? ⟨N, 0, none⟩ = some (.int .i64 x1) := (Lib.cell_of_heap HN_8c.out _).trans rfl
        have n1 : w8.cell? ⟨N, 1, none⟩ = some (.int .i64 x2) := (Lib.cell_of_heap HN_8c.out _).trans rfl
        have HI : Hid (∀ W, Below w8.heap.size w8 W → Calls Tryd.prog 48 #[.pointer (some ⟨b, 0, none⟩), .int .i64 x1] W (InsOut b c da cap bs x1 p8 e8 W)) := Lib.hid (fun W hW => rinstrs b c da cap bs x1 p8 e8 W (HR_8.out.below hW) (by omega))
        clear hs8 hr8 hk8 hhP hP7 n4 n5 n6 HN_8
        go_upto_region 14 with fail
        go_cut [] (fun wx => MidA b c P N da cap bs w w4 x1 x2 x3 x4 x5 x6 x7 x8 p8 e8 wx)
        case first =>
          go_region_held3 (fun w' => w'.cell? ⟨N, 0, none⟩ = some (.int .i64 x1) ∧ w'.cell? ⟨N, 1, none⟩ = some (.int .i64 x2)) (first | go_keep | (refine ⟨?_, ?_⟩ <;> simp only [mcell_set_other hPN, n0b, n1b])) (first
            | (go_at_call 48; refine (HI.out _ (by exact Below.drew (Below.refl _ _))).mono ?_; rintro e u9 ⟨v9, cs, p9, e9, rfl, ho9, hr9, hk9d, hs9⟩; have hk9 : Kp b c w8 u9 := Kp.trans (HR_8.out.kpOf (Below.drew (Below.refl _ _))) hk9d; have n0a := (hk9.cell (o := 0) hN8 hNb hNc).trans n0; have n1a := (hk9.cell (o := 1) hN8 hNb hNc).trans n1; obtain ⟨a9, c9, rfl⟩ := own_slice_n ho9; have HO9 := Lib.hid ho9; have HR9 := Lib.hid hr9; have HK9 := Lib.hid hk9; have HS9 := Lib.hid hs9; have hu9 : w.heap.size ≤ u9.heap.size := Nat.le_trans hw48 hk9.below.size; have hN9 : N < u9.heap.size := Nat.lt_of_lt_of_le hN8 hk9.below.size; clear ho9 hr9 hk9d hk9 hs9)
            | (go_at_call 49; refine (rmsgs b c da cap bs x2 p9 e9 u9 HR9.out (by omega)).mono ?_; rintro e u10 ⟨v10, vs, ms, p10, e10, rfl, ho10, hm10, hr10, hk10, hs10⟩; have n0b := (hk10.cell (o := 0) hN9 hNb hNc).trans n0a; have n1b := (hk10.cell (o := 1) hN9 hNb hNc).trans n1a; obtain ⟨a10, c10, rfl⟩ := own_slice_n ho10; have hp10 := (hk10.oth P (Nat.lt_of_lt_of_le hP8 HK9.out.below.size) hPb hPc).trans ((HK9.out.oth P hP8 hPb hPc).trans HP_8.out); have g0 : u10.cell? ⟨P, 0, none⟩ = some (.slice none 0 0) := (Lib.cell_of_heap hp10 _).trans rfl; have g1 : u10.cell? ⟨P, 1, none⟩ = some (.slice none 0 0) := (Lib.cell_of_heap hp10 _).trans rfl; have h0 := Lib.frozen_of_heap hp10 0; have h1 := Lib.frozen_of_heap hp10 1; have HP10 := Lib.hid hp10; have HO10 := Lib.hid ho10; have HM10 := Lib.hid hm10; have HR10 := Lib.hid hr10; have HK10 := Lib.hid hk10; have HS10 := Lib.hid hs10; clear hp10 ho10 hm10 hr10 hk10 hs10))
          all_goals
            go_wp2_with fail
            go_meet
            have hb9 := HK9.out.below.size
            obtain ⟨r1, k1⟩ := RdS.new HR10.out (HK_8.out.trans (HK9.out.trans HK10.out)) hP4 hb4 hc4 0 (.slice a9 cs.length c9)
            obtain ⟨r2, k2⟩ := RdS.new r1 k1 hP4 hb4 hc4 1 (.slice a10 vs.length c10)
            exact ⟨a9, a10, c9, c10, cs, ms, vs, p10, e9, e10, _, setk_heap (setk_heap HP10.out _) _, own_set (setk_heap HP10.out _) (own_set HP10.out (mown_base hw48 (HK10.out.own HR9.out HO9.out (by decide) (by decide))) (by decide) _ _) (by decide) _ _, own_set (setk_heap HP10.out _) (own_set HP10.out (mown_base hu9 HO10.out) (by decide) _ _) (by decide) _ _, OwnR.base hu9 (HM10.out.map fun v m ho => own_set (setk_heap HP10.out _) (own_set HP10.out ho (by decide) _ _) (by decide) _ _), r2, k2, HS9.out, HS10.out, (heap_set_ne hPN _ _).trans ((heap_set_ne hPN _ _).trans ((HK10.out.oth N hN9 hNb hNc).trans ((HK9.out.oth N hN8 hNb hNc).trans HN_8c.out)))⟩
        case rest =>
          obtain ⟨a9, a10, c9, c10, cs, ms, vs, p10, e9, e10, l9, hhp, hoc, hom, hms, hr, hk, hs9, hs10, hnn⟩ := hcut
          obtain ⟨wA, hwA⟩ : ∃ wA : World, wc = wA := ⟨_, rfl⟩
          rw [hwA] at hhp hoc hom hms hr hk hnn ⊢
          clear hwA
          have hml := hms.len
          rw [hml] at hhp hom
          have hPA : P < wA.heap.size := (Array.getElem?_eq_some_iff.1 hhp).1
          have hNA : N < wA.heap.size := (Array.getElem?_eq_some_iff.1 hnn).1
          have hwA : w.heap.size ≤ wA.heap.size := by omega
          have n2 : wA.cell? ⟨N, 2, none⟩ = some (.int .i64 x3) := (Lib.cell_of_heap hnn _).trans rfl
          have n3 : wA.cell? ⟨N, 3, none⟩ = some (.int .i64 x4) := (Lib.cell_of_heap hnn _).trans rfl
          have HI2 : Hid (∀ W, Below wA.heap.size wA W → Calls Tryd.prog 50 #[.pointer (some ⟨b, 0, none⟩), .int .i64 x3] W (RoutesOut b c da cap bs x3 p10 e10 W)) := Lib.hid (fun W hW => rroutes b c da cap bs x3 p10 e10 W (hr.below hW) (by omega))
          have HOC := Lib.hid hoc
          have HOM := Lib.hid hom
          have HMS := Lib.hid hms
          have HRA := Lib.hid hr
          have HKA := Lib.hid hk
          have HPA := Lib.hid hhp
          have HSA := Lib.hid hs9
          have HSB := Lib.hid hs10
          clear hoc hom hms hr hk hs9 hs10 hnn hml hhp HI n0 n1
          go_upto_region 15 with fail
          go_cut [] (fun wx => MidB b c P da cap bs w w4 x1 x2 x3 x4 x5 x6 x7 x8 p8 e8 wx)
          case first =>
            go_region_held3 (fun w' => w'.cell? ⟨N, 2, none⟩ = some (.int .i64 x3) ∧ w'.cell? ⟨N, 3, none⟩ = some (.int .i64 x4)) (first | go_keep | (refine ⟨?_, ?_⟩ <;> simp only [mcell_set_other hPN, n2b, n3b])) (first
              | (go_at_call 50; refine (HI2.out _ (by exact Below.drew (Below.refl _ _))).mono ?_; rintro e u11 ⟨v11, us, rs, p11, e11, rfl, ho11, hm11, hr11, hk11d, hs11⟩; have hk11 : Kp b c wA u11 := Kp.trans (HRA.out.kpOf (Below.drew (Below.refl _ _))) hk11d; have n2a := (hk11.cell (o := 2) hNA hNb hNc).trans n2; have n3a := (hk11.cell (o := 3) hNA hNb hNc).trans n3; obtain ⟨a11, c11, rfl⟩ := own_slice_n ho11; have HO11 := Lib.hid ho11; have HM11 := Lib.hid hm11; have HR11 := Lib.hid hr11; have HK11 := Lib.hid hk11; have HS11 := Lib.hid hs11; have hu11 : w.heap.size ≤ u11.heap.size := Nat.le_trans hwA hk11.below.size; have hN11 : N < u11.heap.size := Nat.lt_of_lt_of_le hNA hk11.below.size; clear ho11 hm11 hr11 hk11d hk11 hs11)
              | (go_at_call 51; refine (rsends b c da cap bs x4 p11 e11 u11 HR11.out (by omega)).mono ?_; rintro e u12 ⟨v12, ts, ss, p12, e12, rfl, ho12, hm12, hr12, hk12, hs12⟩; have n2b := (hk12.cell (o := 2) hN11 hNb hNc).trans n2a; have n3b := (hk12.cell (o := 3) hN11 hNb hNc).trans n3a; obtain ⟨a12, c12, rfl⟩ := own_slice_n ho12; have hp12 := (hk12.oth P (Nat.lt_of_lt_of_le hPA HK11.out.below.size) hPb hPc).trans ((HK11.out.oth P hPA hPb hPc).trans HPA.out); have g0 : u12.cell? ⟨P, 2, none⟩ = some (.slice none 0 0) := (Lib.cell_of_heap hp12 _).trans rfl; have g1 : u12.cell? ⟨P, 3, none⟩ = some (.slice none 0 0) := (Lib.cell_of_heap hp12 _).trans rfl; have h0 := Lib.frozen_of_heap hp12 2; have h1 := Lib.frozen_of_heap hp12 3; have HP12 := Lib.hid hp12; have HO12 := Lib.hid ho12; have HM12 := Lib.hid hm12; have HR12 := Lib.hid hr12; have HK12 := Lib.hid hk12; have HS12 := Lib.hid hs12; clear hp12 ho12 hm12 hr12 hk12 hs12))
            all_goals
              go_wp2_with fail
              go_meet
              have hlen11 := HM11.out.len
              have hpq := HP12.out
              obtain ⟨r1, k1⟩ := RdS.new HR12.out (HKA.out.trans (HK11.out.trans HK12.out)) hP4 hb4 hc4 2 (.slice a11 us.length c11)
              obtain ⟨r2, k2⟩ := RdS.new r1 k1 hP4 hb4 hc4 3 (.slice a12 ss.length c12)
              have st : ∀ {B : Nat} {e : TypeId} {size : Nat} {v : Value} {n : Nat} {xs : List Value}, 28 ≠ e → u12.ownsRow B e size v n xs → ((u12.setCell ⟨P, 2, none⟩ (.slice a11 us.length c11)).setCell ⟨P, 3, none⟩ (.slice a12 ss.length c12)).ownsRow B e size v n xs := fun hne ho => own_set (setk_heap hpq _) (own_set hpq ho hne _ _) hne _ _
              have up : ∀ {B : Nat} {e : TypeId} {size : Nat} {v : Value} {n : Nat} {xs : List Value}, e ≠ 103 → e ≠ 157 → wA.ownsRow B e size v n xs → u12.ownsRow B e size v n xs := fun h1 h2 ho => HK12.out.own HR11.out (HK11.out.own HRA.out ho h1 h2) h1 h2
              refine ⟨a9, a10, a11, a12, c9, c10, c11, c12, ⟨cs, ms, rs, ss, x5, x6, x7, x8⟩, vs, us, ts, p12, e12, ?_, st (by decide) (up (by decide) (by decide) HOC.out), st (by decide) (up (by decide) (by decide) HOM.out), HMS.out.map fun v m ho => st (by decide) (up (by decide) (by decide) ho), ?_, OwnR.base hwA (HM11.out.map fun v m ho => st (by decide) (HK12.out.own HR11.out ho (by decide) (by decide))), st (by decide) (mown_base hu11 HO12.out), OwnR.base hu11 (HM12.out.map fun v m ho => st (by decide) ho), r2, k2, Step.body HSA.out HSB.out HS11.out HS12.out⟩
              · rw [← hlen11]; exact setk_heap (setk_heap hpq _) _
              · show World.ownsRow _ _ _ _ _ _ _
                rw [← hlen11]; exact st (by decide) (mown_base hwA (HK12.out.own HR11.out HO11.out (by decide) (by decide)))
          case rest =>
            obtain ⟨a9, a10, a11, a12, c9, c10, c11, c12, p, vs, us, ts, p12, e12, hhp, hoc, hom, hms, hor, hrs, hos, hss, hr, hk, hsb⟩ := hcut
            obtain ⟨wB, hwB⟩ : ∃ wB : World, wc = wB := ⟨_, rfl⟩
            rw [hwB] at hhp hoc hom hms hor hrs hos hss hr hk ⊢
            clear hwB
            have hstep : Step false (progR (bs.drop 4)) e12 p (bs.drop p12) := by
              have := Step.prog HS_1.out HS_2.out HS_3.out HS_4.out HS_5.out HS_6.out HS_7.out HS_8.out hsb
              rwa [HQE.out] at this
            have hzB : ZeroAt R wB := (hk.oth R (Array.getElem?_eq_some_iff.1 HZ4.out).1 hRb hRc).trans HZ4.out
            have HZB := Lib.hid hzB
            have HBB := Lib.hid (HB4.out.trans (hk.below.mono hcw))
            have HRB := Lib.hid hr
            have HPB := Lib.hid hhp
            have hPB : P < wB.heap.size := (Array.getElem?_eq_some_iff.1 hhp).1
            have hRB : R < wB.heap.size := (Array.getElem?_eq_some_iff.1 hzB).1
            have bB0 : wB.cell? ⟨b, 0, none⟩ = some (.pointer (some ⟨c, 0, none⟩)) := (Lib.cell_of_heap hr.hb _).trans rfl
            have bB1 : wB.cell? ⟨b, 1, none⟩ = some (.bool e12) := (Lib.cell_of_heap hr.hb _).trans rfl
            have HOW := Lib.hid (fun (hf : (∀ x ∈ p.code, x.op ≤ 255) ∧ (p.code.length ≤ 65535 ∧ p.msgs.length ≤ 65535 ∧ p.routes.length ≤ 65535 ∧ p.sends.length ≤ 65535) ∧ (∀ x ∈ p.routes, x.length ≤ 255) ∧ (∀ x ∈ p.sends, x.routes.length ≤ 255)) => (⟨hoc, ⟨vs, hom, hms⟩, ⟨us, hor, hrs⟩, ⟨ts, hos, hss⟩, hf.1, hf.2.1, hf.2.2.1, hf.2.2.2⟩ : OwnPrg w.heap.size wB p a9 a10 a11 a12 c9 c10 c11 c12))
            have HST := Lib.hid hstep
            clear hhp hoc hom hms hor hrs hos hss hr hk hsb hstep n2 n3
            cases e12
            · obtain ⟨_, hpr⟩ := HST.out.ok
              have HPR := Lib.hid hpr
              obtain ⟨m, hm⟩ : ∃ m, bs.length - p12 = m := ⟨_, rfl⟩
              have HLF := Lib.hid (curLeft b c da cap bs p12 false wB HRB.out)
              rw [hm] at HLF
              have HME := Lib.hid hm
              have hmb : m ≤ 140737488355328 := by omega
              clear hpr hm
              by_cases hm0 : m = 0
              · have hdr : bs.drop p12 = [] := List.drop_eq_nil_of_le (by have := HME.out; omega)
                have HPR2 : Hid (progR (bs.drop 4) = some (p, [])) := Lib.hid (by rw [← hdr]; exact HPR.out)
                have hown := HOW.out (prog_facts HPR2.out)
                have HOWN := Lib.hid hown
                subst hm0
                clear hdr hown
                go_wp2_with fail
                refine HLF.out.mono ?_
                rintro e w13 ⟨rfl, hb13⟩
                have HO13 := Lib.hid (HOWN.out.below hb13)
                have HZ13 := Lib.hid ((hb13.block R hRB).trans HZB.out)
                have hp13 := (hb13.block P hPB).trans HPB.out
                have HP13 := Lib.hid hp13
                have HB13 := Lib.hid (HBB.out.trans (hb13.mono HBB.out.size))
                have hP13 : P < w13.heap.size := (Array.getElem?_eq_some_iff.1 hp13).1
                have hR13 : R < w13.heap.size := (Array.getElem?_eq_some_iff.1 HZ13.out).1
                have HCK := Lib.hid (check_any p a9 a10 a11 a12 c9 c10 c11 c12 w13 HO13.out.prgA)
                unfold prgV at HCK
                obtain ⟨ck, hck⟩ : ∃ ck, checkP p = ck := ⟨_, rfl⟩
                rw [hck] at HCK
                have HCKE := Lib.hid hck
                have y0 : w13.cell? ⟨P, 0, none⟩ = some (.slice a9 p.code.length c9) := (Lib.cell_of_heap hp13 _).trans rfl
                have y1 : w13.cell? ⟨P, 1, none⟩ = some (.slice a10 p.msgs.length c10) := (Lib.cell_of_heap hp13 _).trans rfl
                have y2 : w13.cell? ⟨P, 2, none⟩ = some (.slice a11 p.routes.length c11) := (Lib.cell_of_heap hp13 _).trans rfl
                have y3 : w13.cell? ⟨P, 3, none⟩ = some (.slice a12 p.sends.length c12) := (Lib.cell_of_heap hp13 _).trans rfl
                have y4 : w13.cell? ⟨P, 4, none⟩ = some (.int .i64 p.vars) := (Lib.cell_of_heap hp13 _).trans rfl
                have y5 : w13.cell? ⟨P, 5, none⟩ = some (.int .i64 p.stack) := (Lib.cell_of_heap hp13 _).trans rfl
                have y6 : w13.cell? ⟨P, 6, none⟩ = some (.int .i64 p.blocks) := (Lib.cell_of_heap hp13 _).trans rfl
                have y7 : w13.cell? ⟨P, 7, none⟩ = some (.int .i64 p.fuel) := (Lib.cell_of_heap hp13 _).trans rfl
                clear hb13 hp13 hck bB0 bB1
                go_wp2_with fail
                refine HCK.out.mono ?_
                rintro e w14 ⟨rfl, hb14⟩
                have HO14 := Lib.hid (HO13.out.below hb14)
                have hz14 : ZeroAt R w14 := (hb14.block R hR13).trans HZ13.out
                have HZ14 := Lib.hid hz14
                have hp14 := (hb14.block P hP13).trans HP13.out
                have HB14 := Lib.hid (HB13.out.trans (hb14.mono HB13.out.size))
                clear y0 y1 y2 y3 y4 y5 y6 y7
                have y0 : w14.cell? ⟨P, 0, none⟩ = some (.slice a9 p.code.length c9) := (Lib.cell_of_heap hp14 _).trans rfl
                have y1 : w14.cell? ⟨P, 1, none⟩ = some (.slice a10 p.msgs.length c10) := (Lib.cell_of_heap hp14 _).trans rfl
                have y2 : w14.cell? ⟨P, 2, none⟩ = some (.slice a11 p.routes.length c11) := (Lib.cell_of_heap hp14 _).trans rfl
                have y3 : w14.cell? ⟨P, 3, none⟩ = some (.slice a12 p.sends.length c12) := (Lib.cell_of_heap hp14 _).trans rfl
                have y4 : w14.cell? ⟨P, 4, none⟩ = some (.int .i64 p.vars) := (Lib.cell_of_heap hp14 _).trans rfl
                have y5 : w14.cell? ⟨P, 5, none⟩ = some (.int .i64 p.stack) := (Lib.cell_of_heap hp14 _).trans rfl
                have y6 : w14.cell? ⟨P, 6, none⟩ = some (.int .i64 p.blocks) := (Lib.cell_of_heap hp14 _).trans rfl
                have y7 : w14.cell? ⟨P, 7, none⟩ = some (.int .i64 p.fuel) := (Lib.cell_of_heap hp14 _).trans rfl
                have z0 : w14.cell? ⟨R, 0, none⟩ = some (.slice none 0 0) := (Lib.cell_of_heap HZ14.out _).trans rfl
                have z1 : w14.cell? ⟨R, 1, none⟩ = some (.slice none 0 0) := (Lib.cell_of_heap HZ14.out _).trans rfl
                have z2 : w14.cell? ⟨R, 2, none⟩ = some (.slice none 0 0) := (Lib.cell_of_heap HZ14.out _).trans rfl
                have z3 : w14.cell? ⟨R, 3, none⟩ = some (.slice none 0 0) := (Lib.cell_of_heap HZ14.out _).trans rfl
                have z4 : w14.cell? ⟨R, 4, none⟩ = some (.int .i64 0) := (Lib.cell_of_heap HZ14.out _).trans rfl
                have z5 : w14.cell? ⟨R, 5, none⟩ = some (.int .i64 0) := (Lib.cell_of_heap HZ14.out _).trans rfl
                have z6 : w14.cell? ⟨R, 6, none⟩ = some (.int .i64 0) := (Lib.cell_of_heap HZ14.out _).trans rfl
                have z7 : w14.cell? ⟨R, 7, none⟩ = some (.int .i64 0) := (Lib.cell_of_heap HZ14.out _).trans rfl
                have f0 := Lib.frozen_of_heap HZ14.out 0
                have f1 := Lib.frozen_of_heap HZ14.out 1
                have f2 := Lib.frozen_of_heap HZ14.out 2
                have f3 := Lib.frozen_of_heap HZ14.out 3
                have f4 := Lib.frozen_of_heap HZ14.out 4
                have f5 := Lib.frozen_of_heap HZ14.out 5
                have f6 := Lib.frozen_of_heap HZ14.out 6
                have f7 := Lib.frozen_of_heap HZ14.out 7
                clear hb14 hp14 hz14
                by_cases hc0 : ck = 0
                · have HD : Hid (decodeP bs = .inr p) := Lib.hid (decode_ok h4 HM4.out HPR2.out (by rw [HCKE.out, hc0]))
                  subst hc0
                  go_wp2_with fail
                  refine bodyPost_ret (v := .tuple #[prgV p a9 c9 a10 c10 a11 c11 a12 c12, .int .i64 0]) ?_ rfl ?_
                  · simp [prgV, results, Tryd.results14, go_sem, z0, z1, z2, z3, z4, z5, z6, z7]
                  refine ⟨below_setR HB14.out hRw _ _ _ _ _ _ _ _, ?_⟩
                  rw [HD.out]
                  exact ⟨a9, a10, a11, a12, c9, c10, c11, c12, rfl, HO14.out.map fun e size v n xs hne ho => own_set8 HZ14.out ho (fun h => hne h.symm) _ _ _ _ _ _ _ _⟩
                · have HD : Hid (decodeP bs = .inl ck) := Lib.hid (by rw [decode_check h4 HM4.out HPR2.out (by rw [HCKE.out]; exact hc0), HCKE.out])
                  have ec : ((ck : Int) == 0) = false := by rw [beq_eq_false_iff_ne]; omega
                  have ec2 : ((ck : Int) != 0) = true := by rw [bne_iff_ne]; omega
                  clear hc0
                  go_wp2_with fail
                  refine bodyPost_ret (v := .tuple #[zeroPrg, .int .i64 ck]) ?_ rfl ?_
                  · simp [zeroPrg, results, Tryd.results14, go_sem, z0, z1, z2, z3, z4, z5, z6, z7]
                  refine ⟨?_, ?_⟩
                  · first | exact below_setR HB14.out hRw _ _ _ _ _ _ _ _ | exact HB14.out
                  · rw [HD.out]
              · have hdr : bs.drop p12 ≠ [] := by
                  intro h
                  have := congrArg List.length h
                  rw [List.length_drop, HME.out] at this
                  exact hm0 this
                have HD : Hid (decodeP bs = .inl 2) := Lib.hid (decode_left h4 HM4.out HPR.out hdr)
                have hm1 : 1 ≤ m := by omega
                clear hdr hm0
                go_wp2_with fail
                refine HLF.out.mono ?_
                rintro e w13 ⟨rfl, hb13⟩
                have HZ13 := Lib.hid ((hb13.block R hRB).trans HZB.out)
                have HB13 := Lib.hid (HBB.out.trans (hb13.mono HBB.out.size))
                have z0 : w13.cell? ⟨R, 0, none⟩ = some (.slice none 0 0) := (Lib.cell_of_heap HZ13.out _).trans rfl
                have z1 : w13.cell? ⟨R, 1, none⟩ = some (.slice none 0 0) := (Lib.cell_of_heap HZ13.out _).trans rfl
                have z2 : w13.cell? ⟨R, 2, none⟩ = some (.slice none 0 0) := (Lib.cell_of_heap HZ13.out _).trans rfl
                have z3 : w13.cell? ⟨R, 3, none⟩ = some (.slice none 0 0) := (Lib.cell_of_heap HZ13.out _).trans rfl
                have z4 : w13.cell? ⟨R, 4, none⟩ = some (.int .i64 0) := (Lib.cell_of_heap HZ13.out _).trans rfl
                have z5 : w13.cell? ⟨R, 5, none⟩ = some (.int .i64 0) := (Lib.cell_of_heap HZ13.out _).trans rfl
                have z6 : w13.cell? ⟨R, 6, none⟩ = some (.int .i64 0) := (Lib.cell_of_heap HZ13.out _).trans rfl
                have z7 : w13.cell? ⟨R, 7, none⟩ = some (.int .i64 0) := (Lib.cell_of_heap HZ13.out _).trans rfl
                have f0 := Lib.frozen_of_heap HZ13.out 0
                have f1 := Lib.frozen_of_heap HZ13.out 1
                have f2 := Lib.frozen_of_heap HZ13.out 2
                have f3 := Lib.frozen_of_heap HZ13.out 3
                have f4 := Lib.frozen_of_heap HZ13.out 4
                have f5 := Lib.frozen_of_heap HZ13.out 5
                have f6 := Lib.frozen_of_heap HZ13.out 6
                have f7 := Lib.frozen_of_heap HZ13.out 7
                clear hb13
                go_wp2_with fail
                refine bodyPost_ret (v := .tuple #[zeroPrg, .int .i64 2]) ?_ rfl ?_
                · simp [zeroPrg, results, Tryd.results14, go_sem, z0, z1, z2, z3, z4, z5, z6, z7]
                refine ⟨?_, ?_⟩
                · first | exact below_setR HB13.out hRw _ _ _ _ _ _ _ _ | exact HB13.out
                · rw [HD.out]; rfl
            · have HD : Hid (decodeP bs = .inl 2) := Lib.hid (decode_none h4 HM4.out HST.out.bad)
              have z0 : wB.cell? ⟨R, 0, none⟩ = some (.slice none 0 0) := (Lib.cell_of_heap HZB.out _).trans rfl
              have z1 : wB.cell? ⟨R, 1, none⟩ = some (.slice none 0 0) := (Lib.cell_of_heap HZB.out _).trans rfl
              have z2 : wB.cell? ⟨R, 2, none⟩ = some (.slice none 0 0) := (Lib.cell_of_heap HZB.out _).trans rfl
              have z3 : wB.cell? ⟨R, 3, none⟩ = some (.slice none 0 0) := (Lib.cell_of_heap HZB.out _).trans rfl
              have z4 : wB.cell? ⟨R, 4, none⟩ = some (.int .i64 0) := (Lib.cell_of_heap HZB.out _).trans rfl
              have z5 : wB.cell? ⟨R, 5, none⟩ = some (.int .i64 0) := (Lib.cell_of_heap HZB.out _).trans rfl
              have z6 : wB.cell? ⟨R, 6, none⟩ = some (.int .i64 0) := (Lib.cell_of_heap HZB.out _).trans rfl
              have z7 : wB.cell? ⟨R, 7, none⟩ = some (.int .i64 0) := (Lib.cell_of_heap HZB.out _).trans rfl
              have f0 := Lib.frozen_of_heap HZB.out 0
              have f1 := Lib.frozen_of_heap HZB.out 1
              have f2 := Lib.frozen_of_heap HZB.out 2
              have f3 := Lib.frozen_of_heap HZB.out 3
              have f4 := Lib.frozen_of_heap HZB.out 4
              have f5 := Lib.frozen_of_heap HZB.out 5
              have f6 := Lib.frozen_of_heap HZB.out 6
              have f7 := Lib.frozen_of_heap HZB.out 7
              go_wp2_with fail
              refine bodyPost_ret (v := .tuple #[zeroPrg, .int .i64 2]) ?_ rfl ?_
              · simp [zeroPrg, results, Tryd.results14, go_sem, z0, z1, z2, z3, z4, z5, z6, z7]
              refine ⟨?_, ?_⟩
              · first | exact below_setR HBB.out hRw _ _ _ _ _ _ _ _ | exact HBB.out
              · rw [HD.out]; rfl
    · have HD : Hid (decodeP bs = .inl 3) := Lib.hid (decode_form h4 (by rw [← hxe]; exact hm))
      have hne : ((⟨x4.toArray⟩ : ByteArray).toList == (⟨#[115, 104, 108, 49]⟩ : ByteArray).toList) = false := by
        rw [beq_eq_false_iff_ne, Lib.toList_data, Lib.toList_data]
        exact hm
      have hne2 : ((⟨x4.toArray⟩ : ByteArray).toList == [115, 104, 108, 49]) = false := by
        rw [beq_eq_false_iff_ne, Lib.toList_data]
        exact hm
      obtain ⟨s4, hs4⟩ : ∃ s4 : ByteArray, (⟨x4.toArray⟩ : ByteArray) = s4 := ⟨_, rfl⟩
      rw [hs4] at hcv hne hne2
      clear hm hxe hqe hs4 hz4
      have z0 : w4.cell? ⟨R, 0, none⟩ = some (.slice none 0 0) := (Lib.cell_of_heap HZ4.out _).trans rfl
      have z1 : w4.cell? ⟨R, 1, none⟩ = some (.slice none 0 0) := (Lib.cell_of_heap HZ4.out _).trans rfl
      have z2 : w4.cell? ⟨R, 2, none⟩ = some (.slice none 0 0) := (Lib.cell_of_heap HZ4.out _).trans rfl
      have z3 : w4.cell? ⟨R, 3, none⟩ = some (.slice none 0 0) := (Lib.cell_of_heap HZ4.out _).trans rfl
      have z4 : w4.cell? ⟨R, 4, none⟩ = some (.int .i64 0) := (Lib.cell_of_heap HZ4.out _).trans rfl
      have z5 : w4.cell? ⟨R, 5, none⟩ = some (.int .i64 0) := (Lib.cell_of_heap HZ4.out _).trans rfl
      have z6 : w4.cell? ⟨R, 6, none⟩ = some (.int .i64 0) := (Lib.cell_of_heap HZ4.out _).trans rfl
      have z7 : w4.cell? ⟨R, 7, none⟩ = some (.int .i64 0) := (Lib.cell_of_heap HZ4.out _).trans rfl
      have f0 := Lib.frozen_of_heap HZ4.out 0
      have f1 := Lib.frozen_of_heap HZ4.out 1
      have f2 := Lib.frozen_of_heap HZ4.out 2
      have f3 := Lib.frozen_of_heap HZ4.out 3
      have f4 := Lib.frozen_of_heap HZ4.out 4
      have f5 := Lib.frozen_of_heap HZ4.out 5
      have f6 := Lib.frozen_of_heap HZ4.out 6
      have f7 := Lib.frozen_of_heap HZ4.out 7
      go_wp2_with fail
      refine bodyPost_ret (v := .tuple #[zeroPrg, .int .i64 3]) ?_ rfl ?_
      · simp [zeroPrg, results, Tryd.results14, go_sem, z0, z1, z2, z3, z4, z5, z6, z7]
      refine ⟨?_, ?_⟩
      · first | exact below_setR HB4.out hRw _ _ _ _ _ _ _ _ | exact HB4.out
      · rw [HD.out]; rfl
  · have HD : Hid (decodeP bs = .inl 2) := Lib.hid (decode_short hs4.bad)
    clear hz4 hs4 ho4
    have z0 : w4.cell? ⟨R, 0, none⟩ = some (.slice none 0 0) := (Lib.cell_of_heap HZ4.out _).trans rfl
    have z1 : w4.cell? ⟨R, 1, none⟩ = some (.slice none 0 0) := (Lib.cell_of_heap HZ4.out _).trans rfl
    have z2 : w4.cell? ⟨R, 2, none⟩ = some (.slice none 0 0) := (Lib.cell_of_heap HZ4.out _).trans rfl
    have z3 : w4.cell? ⟨R, 3, none⟩ = some (.slice none 0 0) := (Lib.cell_of_heap HZ4.out _).trans rfl
    have z4 : w4.cell? ⟨R, 4, none⟩ = some (.int .i64 0) := (Lib.cell_of_heap HZ4.out _).trans rfl
    have z5 : w4.cell? ⟨R, 5, none⟩ = some (.int .i64 0) := (Lib.cell_of_heap HZ4.out _).trans rfl
    have z6 : w4.cell? ⟨R, 6, none⟩ = some (.int .i64 0) := (Lib.cell_of_heap HZ4.out _).trans rfl
    have z7 : w4.cell? ⟨R, 7, none⟩ = some (.int .i64 0) := (Lib.cell_of_heap HZ4.out _).trans rfl
    have f0 := Lib.frozen_of_heap HZ4.out 0
    have f1 := Lib.frozen_of_heap HZ4.out 1
    have f2 := Lib.frozen_of_heap HZ4.out 2
    have f3 := Lib.frozen_of_heap HZ4.out 3
    have f4 := Lib.frozen_of_heap HZ4.out 4
    have f5 := Lib.frozen_of_heap HZ4.out 5
    have f6 := Lib.frozen_of_heap HZ4.out 6
    have f7 := Lib.frozen_of_heap HZ4.out 7
    go_wp2_with fail
    refine bodyPost_ret (v := .tuple #[zeroPrg, .int .i64 2]) ?_ rfl ?_
    · simp [zeroPrg, results, Tryd.results14, go_sem, z0, z1, z2, z3, z4, z5, z6, z7]
    refine ⟨?_, ?_⟩
    · first | exact below_setR HB4.out hRw _ _ _ _ _ _ _ _ | exact HB4.out
    · rw [HD.out]; rfl
end Go.Proofs.YtaijdpckkobofaaDoor
