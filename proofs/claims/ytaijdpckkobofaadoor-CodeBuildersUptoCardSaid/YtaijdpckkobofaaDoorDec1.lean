/- codec.Get at the greatest first; a cursor; a reader with a flag: number. -/
import Derived.Test.YtaijdpckkobofaaDoorMem1
import Derived.Test.YtaijdpckkobofaaDoorDecStep
import Derived.Laws.BitsAllLaws
namespace Go.Proofs.YtaijdpckkobofaaDoor
open Go.RowKit
set_option linter.unusedVariables false

theorem shape_k (k : Nat) (w : World) (h1 : 1 ≤ k) (h8 : k ≤ 8) :
    Calls Tryd.prog 127 #[.int .i64 2, .int .i64 k] w fun e w' => e = .returned (.int .i64 0) ∧ w = w' := by
  go_enter Tryd.func127, Tryd.ntmps127
  go_wp2
  all_goals
    go_ret
    exact ⟨rfl, rfl⟩

theorem or_byte (m u : Nat) (hm : m < 16777216) (hu : u < 2 ^ 8) : bits .or .u64 ((m : Int) * 256) (u : Int) = ((m * 256 + u : Nat) : Int) := by
  have e : ((m : Int) * 256) = ((m * 256 : Nat) : Int) := by omega
  have h1 : (BitVec.ofInt 64 ((m * 256 : Nat) : Int)).toNat = m * 256 := by simp; omega
  have h2 : (BitVec.ofInt 64 ((u : Nat) : Int)).toNat = u := by simp; omega
  rw [e]
  show IntKind.u64.wrap ((BitVec.ofInt 64 ((m * 256 : Nat) : Int) ||| BitVec.ofInt 64 ((u : Nat) : Int)).toNat : Int) = _
  rw [BitVec.toNat_or, h1, h2, nat_join8 (m * 256) u (by omega) (by omega)]
  simp only [IntKind.wrap, IntKind.bits, IntKind.signed]
  simp; omega
def getOut (r : Option (Nat × List UInt8)) : Value := match r with
  | some (x, _) => .tuple #[.int .u64 x, .int .i64 0]
  | none => .tuple #[.int .u64 0, .int .i64 2]

theorem beOf_snoc : ∀ (l : List UInt8) (c : UInt8), beOf (l ++ [c]) = beOf l * 256 + c.toNat
  | [], c => by simp [beOf]
  | x :: l, c => by
    simp only [List.cons_append, beOf, List.length_append, List.length_singleton, beOf_snoc l c]
    rw [Nat.pow_succ, Nat.add_mul]
    have : x.toNat * (256 ^ l.length * 256) = x.toNat * 256 ^ l.length * 256 := by rw [Nat.mul_assoc]
    omega
theorem beOf_take_succ {l : List UInt8} {j : Nat} {x : UInt8} (h : l[j]? = some x) : beOf (l.take (j + 1)) = beOf (l.take j) * 256 + x.toNat := by
  rw [List.take_add_one, h]; exact beOf_snoc _ _

set_option maxRecDepth 100000 in
set_option maxHeartbeats 1000000 in
theorem get_any (da : Option Addr) (n c k p : Nat) (bs : List UInt8) (w : World) (hA : BsA w da bs) (hn : bs.length = n) (h1 : 1 ≤ k) (h4 : k ≤ 4) (hp : p ≤ n) (hb : n ≤ 140737488355328) :
    Calls Tryd.prog 120 #[.int .i64 2, .slice da n c, .int .i64 p, .int .i64 k] w fun e w' => e = .returned (getOut (numR k (bs.drop p))) ∧ w = w' := by
  by_cases hle : k ≤ n - p
  · have hr : numR k (bs.drop p) = some (beOf ((bs.drop p).take k), (bs.drop p).drop k) := by
      unfold numR; rw [if_pos (by rw [List.length_drop, hn]; exact hle)]
    rw [hr]
    have HB := Lib.hid hA
    have HN := Lib.hid hn
    clear hr hA hn
    go_enter Tryd.func120, Tryd.ntmps120
    go_wp2_with (first | (go_at_call 127; refine (shape_k _ _ h1 (by omega)).mono ?_; rintro e w' ⟨rfl, rfl⟩))
    go_loop [11, 36] (fun v ix => ∃ j : Nat, j ≤ k ∧ ix = .int .i64 j ∧ v = .int .u64 (beOf ((bs.drop p).take j))) (fun _ ix => k - (intOf ix).toNat)
    case atStart => exact ⟨0, by omega, rfl, rfl⟩
    case round =>
      obtain ⟨j, hj, rfl, rfl⟩ := hrel
      by_cases hlt : j < k
      · obtain ⟨x, hx⟩ : ∃ x, bs[p + j]? = some x := ⟨_, List.getElem?_eq_getElem (by have := HN.out; omega)⟩
        obtain ⟨g, o, hda, hg, hc⟩ := HB.out _ x hx
        have hs := beOf_take_succ (l := bs.drop p) (j := j) (x := x) (by rw [List.getElem?_drop]; exact hx)
        have hlt1 : beOf ((bs.drop p).take j) < 256 ^ j := by
          have := beOf_lt ((bs.drop p).take j)
          have h2 : 256 ^ ((bs.drop p).take j).length ≤ 256 ^ j := Nat.pow_le_pow_right (by omega) (by simp; omega)
          omega
        have hlt2 : 256 ^ j ≤ 256 ^ 3 := Nat.pow_le_pow_right (by omega) (by omega)
        have hxt := x.toNat_lt
        have HS := Lib.hid hs
        generalize beOf ((bs.drop p).take j) = m at *
        have hm : m < 16777216 := by omega
        generalize x.toNat = u at *
        clear hs hx hlt1 hlt2
        subst hda
        go_wp2_with fail
        go_round
        case rel => exact ⟨j + 1, by omega, by go_num, by rw [or_byte m u hm hxt, HS.out]⟩
        case measure => simp [intOf]; omega
      · obtain rfl : j = k := by omega
        go_wp2_with fail
        go_ret2
        exact ⟨rfl, rfl⟩
  · have hr : numR k (bs.drop p) = none := by
      unfold numR; rw [if_neg (by rw [List.length_drop, hn]; exact hle)]
    rw [hr]
    have hgt : (n : Int) - (p : Int) < (k : Int) := by omega
    clear hr hA hn hle
    go_enter Tryd.func120, Tryd.ntmps120
    go_wp2_with (first | (go_at_call 127; refine (shape_k _ _ h1 (by omega)).mono ?_; rintro e w' ⟨rfl, rfl⟩))
    all_goals
      go_ret2
      exact ⟨rfl, rfl⟩

/-- all blocks but b and c stand as they stood -/
structure Kp (b c : Nat) (w w' : World) : Prop where
  below : Below c w w'
  lt : c < b
  oth : ∀ k, k < w.heap.size → k ≠ b → k ≠ c → w'.heap[k]? = w.heap[k]?
theorem Kp.of {b c : Nat} {w w' : World} (h : Below w.heap.size w w') (hc : c ≤ w.heap.size) (lt : c < b) : Kp b c w w' := ⟨h.mono hc, lt, fun k hk _ _ => h.block k hk⟩
theorem Kp.trans {b c : Nat} {w w1 w2 : World} (h : Kp b c w w1) (k : Kp b c w1 w2) : Kp b c w w2 :=
  ⟨h.below.trans k.below, h.lt, fun j hj hb hc => by rw [k.oth j (by have := h.below.size; omega) hb hc, h.oth j hj hb hc]⟩
theorem Kp.setb {b c : Nat} {w w1 : World} (h : Kp b c w w1) (o : Nat) (v : Value) : Kp b c w (w1.setCell ⟨b, o, none⟩ v) :=
  ⟨h.below.setCell (p := ⟨b, o, none⟩) (by show c ≤ b; have := h.lt; omega) v, h.lt, fun k hk hb hc => by rw [Below.heap_setCell _ _ _ _ hb]; exact h.oth k hk hb hc⟩
theorem Kp.setc {b c : Nat} {w w1 : World} (h : Kp b c w w1) (o : Nat) (v : Value) : Kp b c w (w1.setCell ⟨c, o, none⟩ v) :=
  ⟨h.below.setCell (p := ⟨c, o, none⟩) (by show c ≤ c; omega) v, h.lt, fun k hk hb hc => by rw [Below.heap_setCell _ _ _ _ hc]; exact h.oth k hk hb hc⟩
theorem Kp.refl {b c : Nat} (w : World) (hc : c ≤ w.heap.size) (lt : c < b) : Kp b c w w := Kp.of (Below.refl _ _) hc lt

/-- a reader: its cursor, its bytes, how many are taken, whether it has ended -/
structure RdS (b c : Nat) (da : Option Addr) (cap : Nat) (bs : List UInt8) (p : Nat) (en : Bool) (w : World) : Prop where
  hb : w.heap[b]? = some (.cells #[.pointer (some ⟨c, 0, none⟩), .bool en] 103 (0, 0))
  hc : w.heap[c]? = some (.cells #[.slice da bs.length cap, .int .i64 p] 157 (0, 0))
  le : p ≤ bs.length
  dat : BsA w da bs
  cl : bs.length ≤ cap
  big : bs.length ≤ 140737488355328
  dl : ∀ ad, da = some ad → ad.block < c
  nil : da = none → cap = 0
  lt : c < b
theorem RdS.bl {b c : Nat} {da : Option Addr} {cap p : Nat} {bs : List UInt8} {en : Bool} {w : World} (h : RdS b c da cap bs p en w) : b < w.heap.size := (Array.getElem?_eq_some_iff.1 h.hb).1
theorem RdS.cl' {b c : Nat} {da : Option Addr} {cap p : Nat} {bs : List UInt8} {en : Bool} {w : World} (h : RdS b c da cap bs p en w) : c < w.heap.size := (Array.getElem?_eq_some_iff.1 h.hc).1
theorem RdS.below {b c : Nat} {da : Option Addr} {cap p : Nat} {bs : List UInt8} {en : Bool} {w w' : World} (h : RdS b c da cap bs p en w) (k : Below w.heap.size w w') : RdS b c da cap bs p en w' :=
  ⟨(k.block b h.bl).trans h.hb, (k.block c h.cl').trans h.hc, h.le, h.dat.below k, h.cl, h.big, h.dl, h.nil, h.lt⟩
theorem BsA.blocks {w w' : World} {a : Option Addr} {l : List UInt8} (h : BsA w a l) (k : ∀ ad, a = some ad → w'.heap[ad.block]? = w.heap[ad.block]?) (hs : w.heap.size ≤ w'.heap.size) : BsA w' a l := by
  intro i x hx
  obtain ⟨g, o, ha, hg, hc⟩ := h i x hx
  refine ⟨g, o, ha, by omega, ?_⟩
  have := k _ ha
  unfold World.cell? at *
  rw [this]; exact hc
theorem RdS.setEnd {b c : Nat} {da : Option Addr} {cap p : Nat} {bs : List UInt8} {en : Bool} {w : World} (h : RdS b c da cap bs p en w) : RdS b c da cap bs p true (w.setCell ⟨b, 1, none⟩ (.bool true)) := by
  have hlt := h.lt
  refine ⟨?_, ?_, h.le, ?_, h.cl, h.big, h.dl, h.nil, h.lt⟩
  · simp [World.setCell, Array.getElem?_modify, h.hb]
  · rw [Below.heap_setCell _ _ _ _ (show c ≠ b by omega)]; exact h.hc
  · refine h.dat.blocks (fun ad e => Below.heap_setCell _ _ _ _ (by have := h.dl ad e; show ad.block ≠ b; omega)) ?_
    simp [World.setCell]
theorem RdS.setAt {b c : Nat} {da : Option Addr} {cap p : Nat} {bs : List UInt8} {en : Bool} {w : World} (h : RdS b c da cap bs p en w) (q : Nat) (hq : q ≤ bs.length) : RdS b c da cap bs q en (w.setCell ⟨c, 1, none⟩ (.int .i64 q)) := by
  have hlt := h.lt
  refine ⟨?_, ?_, hq, ?_, h.cl, h.big, h.dl, h.nil, h.lt⟩
  · rw [Below.heap_setCell _ _ _ _ (show b ≠ c by omega)]; exact h.hb
  · simp [World.setCell, Array.getElem?_modify, h.hc]
  · refine h.dat.blocks (fun ad e => Below.heap_setCell _ _ _ _ (by have := h.dl ad e; show ad.block ≠ c; omega)) ?_
    simp [World.setCell]
/-- a row of another type stands -/
theorem Kp.own {b c : Nat} {w w' : World} (k : Kp b c w w') {da : Option Addr} {cap p : Nat} {bs : List UInt8} {en : Bool} (h : RdS b c da cap bs p en w) {B : Nat} {e : TypeId} {size : Nat} {v : Value} {n : Nat} {xs : List Value} (ho : w.ownsRow B e size v n xs) (h1 : e ≠ 103) (h2 : e ≠ 157) : w'.ownsRow B e size v n xs := by
  refine mown_block ho fun g hg => ?_
  obtain ⟨cs, fz, hh⟩ := Lib.ownsRow_kind ho g hg
  refine k.oth g (Array.getElem?_eq_some_iff.1 hh).1 ?_ ?_
  · intro he
    subst he
    rw [h.hb] at hh
    injection hh with hh
    injection hh with _ hh _
    exact h1 hh.symm
  · intro he
    subst he
    rw [h.hc] at hh
    injection hh with hh
    injection hh with _ hh _
    exact h2 hh.symm

/-- what a number leaves -/
def NumOut (b c : Nat) (da : Option Addr) (cap : Nat) (bs : List UInt8) (k p : Nat) (en : Bool) (w : World) (e : Ending) (w' : World) : Prop :=
  ∃ (n q : Nat) (en' : Bool), e = .returned (.int .i64 n) ∧ n < 256 ^ k ∧ RdS b c da cap bs q en' w' ∧ Kp b c w w' ∧ Step en (numR k (bs.drop p)) en' n (bs.drop q)

def curOut (b c : Nat) (da : Option Addr) (cap : Nat) (bs : List UInt8) (k p : Nat) (en : Bool) (w : World) (e : Ending) (w' : World) : Prop :=
  e = .returned (getOut (numR k (bs.drop p))) ∧ Kp b c w w' ∧ ∃ q, RdS b c da cap bs q en w' ∧ ∀ n l, numR k (bs.drop p) = some (n, l) → l = bs.drop q
theorem cur_none {b c : Nat} {da : Option Addr} {cap : Nat} {bs : List UInt8} {k p : Nat} {en : Bool} {w w1 : World} (h : RdS b c da cap bs p en w) (hr : numR k (bs.drop p) = none) (hb : Below w.heap.size w w1) : curOut b c da cap bs k p en w (.returned (.tuple #[.int .u64 0, .int .i64 2])) w1 := by
  refine ⟨by rw [hr]; rfl, Kp.of hb (by have := h.cl'; omega) h.lt, p, h.below hb, fun n l e => ?_⟩
  rw [hr] at e; cases e
theorem cur_some {b c : Nat} {da : Option Addr} {cap : Nat} {bs : List UInt8} {k p n : Nat} {l : List UInt8} {en : Bool} {w w1 : World} (h : RdS b c da cap bs p en w) (hr : numR k (bs.drop p) = some (n, l)) (hb : Below w.heap.size w w1) : curOut b c da cap bs k p en w (.returned (.tuple #[.int .u64 n, .int .i64 0])) (w1.setCell ⟨c, 1, none⟩ (.int .i64 ((p : Int) + (k : Int)))) := by
  obtain ⟨h1, h2, _, _⟩ := numR_spec hr
  rw [List.length_drop] at h1
  have hle := h.le
  have e : ((p : Int) + (k : Int)) = ((p + k : Nat) : Int) := by omega
  rw [e]
  refine ⟨by rw [hr]; rfl, (Kp.of hb (by have := h.cl'; omega) h.lt).setc _ _, p + k, ?_, fun n' l' e' => ?_⟩
  · refine (h.below hb).setAt (p + k) ?_
    by_cases hk : k = 0
    · omega
    · omega
  · rw [hr] at e'
    simp only [Option.some.injEq, Prod.mk.injEq] at e'
    rw [← e'.2, h2, List.drop_drop]
set_option maxRecDepth 100000 in
set_option maxHeartbeats 1000000 in
theorem curNumber (b c : Nat) (da : Option Addr) (cap : Nat) (bs : List UInt8) (k p : Nat) (en : Bool) (w : World) (h : RdS b c da cap bs p en w) (h1 : 1 ≤ k) (h4 : k ≤ 4) :
    Calls Tryd.prog 93 #[.pointer (some ⟨c, 0, none⟩), .int .i64 2, .int .i64 k] w (curOut b c da cap bs k p en w) := by
  obtain ⟨n, hn⟩ : ∃ n, bs.length = n := ⟨_, rfl⟩
  have hp : p ≤ n := by have := h.le; omega
  have hb : n ≤ 140737488355328 := by have := h.big; omega
  have HG : Hid (∀ W, Below w.heap.size w W → Calls Tryd.prog 120 #[.int .i64 2, .slice da n cap, .int .i64 p, .int .i64 k] W fun e w' => e = .returned (getOut (numR k (bs.drop p))) ∧ W = w') := Lib.hid (fun W hW => get_any da n cap k p bs W (h.dat.below hW) hn h1 h4 hp hb)
  have c0 : w.cell? ⟨c, 0, none⟩ = some (.slice da n cap) := by rw [← hn]; exact (Lib.cell_of_heap h.hc _).trans rfl
  have c1 : w.cell? ⟨c, 1, none⟩ = some (.int .i64 p) := (Lib.cell_of_heap h.hc _).trans rfl
  have cf := Lib.frozen_of_heap h.hc 1
  have HN := Lib.hid hn
  have HR := Lib.hid h
  clear h hn
  go_enter Tryd.func93, Tryd.ntmps93
  go_wp2_with fail
  cases hr : numR k (bs.drop p) with
  | none =>
    have HR0 := Lib.hid hr
    rw [hr] at HG
    simp only [getOut] at HG
    clear hr
    go_region_held3 (fun w' => w'.cell? ⟨c, 0, none⟩ = some (.slice da n cap) ∧ w'.cell? ⟨c, 1, none⟩ = some (.int .i64 p)) (go_keep) (first | (go_at_call 120; refine (HG.out _ (Below.drew (Below.refl _ _))).mono ?_; rintro e w5 ⟨rfl, rfl⟩))
    all_goals
      go_wp2_with fail
      go_ret2
      exact cur_none HR.out HR0.out ((Below.refl _ _).drew)
  | some x =>
    obtain ⟨m, l⟩ := x
    have HR0 := Lib.hid hr
    rw [hr] at HG
    simp only [getOut] at HG
    clear hr
    go_region_held3 (fun w' => w'.cell? ⟨c, 0, none⟩ = some (.slice da n cap) ∧ w'.cell? ⟨c, 1, none⟩ = some (.int .i64 p)) (go_keep) (first | (go_at_call 120; refine (HG.out _ (Below.drew (Below.refl _ _))).mono ?_; rintro e w5 ⟨rfl, rfl⟩))
    all_goals
      go_wp2_with fail
      go_ret2
      exact cur_some HR.out HR0.out ((Below.refl _ _).drew)

set_option maxRecDepth 100000 in
set_option maxHeartbeats 1000000 in
theorem rnumber (b c : Nat) (da : Option Addr) (cap : Nat) (bs : List UInt8) (k p : Nat) (en : Bool) (w : World) (h : RdS b c da cap bs p en w) (h1 : 1 ≤ k) (h4 : k ≤ 4) :
    Calls Tryd.prog 47 #[.pointer (some ⟨b, 0, none⟩), .int .i64 k] w (NumOut b c da cap bs k p en w) := by
  have HC := Lib.hid (curNumber b c da cap bs k p en w h h1 h4)
  have b0 : w.cell? ⟨b, 0, none⟩ = some (.pointer (some ⟨c, 0, none⟩)) := (Lib.cell_of_heap h.hb _).trans rfl
  have hlt := h.lt
  clear h
  go_enter Tryd.func47, Tryd.ntmps47
  go_wp2_with fail
  refine HC.out.mono ?_
  rintro e w1 ⟨rfl, hk, q, hr, hq⟩
  clear HC
  have HK := Lib.hid hk
  have HR := Lib.hid hr
  have c0 : w1.cell? ⟨b, 0, none⟩ = some (.pointer (some ⟨c, 0, none⟩)) := (Lib.cell_of_heap hr.hb _).trans rfl
  have c1 : w1.cell? ⟨b, 1, none⟩ = some (.bool en) := (Lib.cell_of_heap hr.hb _).trans rfl
  have cf := Lib.frozen_of_heap hr.hb 1
  cases hn : numR k (bs.drop p) with
  | none =>
    have HN := Lib.hid hn
    simp only [getOut]
    clear hq hn hk hr
    go_wp2_with fail
    go_ret
    exact ⟨0, q, true, rfl, Nat.pos_of_ne_zero (by simp), HR.out.setEnd, HK.out.setb _ _, Step.of_none HN.out⟩
  | some x =>
    obtain ⟨n, l⟩ := x
    have HQ := Lib.hid (hq n l hn)
    have hlt4 : n < 256 ^ k := (numR_spec hn).2.2.2
    have h44 : 256 ^ k ≤ 256 ^ 4 := Nat.pow_le_pow_right (by omega) h4
    have hn32 : n < 4294967296 := by omega
    have HN := Lib.hid hn
    have HLT := Lib.hid hlt4
    simp only [getOut]
    clear hq hn hk hr hlt4 h44
    go_wp2_with fail
    go_ret
    refine ⟨n, q, en, rfl, HLT.out, HR.out, HK.out, ?_⟩
    cases en
    · exact Or.inl ⟨rfl, rfl, by rw [HN.out, HQ.out]⟩
    · exact Step.of_end
end Go.Proofs.YtaijdpckkobofaaDoor
