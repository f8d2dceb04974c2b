/- Bytes at an address, owned rows: general lemmas for the bytecode's texts; bytes.Clone. -/
import Derived.Test.YtaijdpckkobofaaDoorKit2
import Derived.Test.YtaijdpckkobofaaDoorShelf
import Derived.Laws.AppendOwnNone
namespace Go.Proofs.YtaijdpckkobofaaDoor
open Go.RowKit
set_option linter.unusedVariables false

/-- these bytes lie at the address -/
def BsA (w : World) (a : Option Addr) (l : List UInt8) : Prop := ∀ (k : Nat) (x : UInt8), l[k]? = some x → ∃ g o, a = some ⟨g, o, none⟩ ∧ g < w.heap.size ∧ w.cell? ⟨g, o + k, none⟩ = some (.int .u8 (x.toNat : Int))
theorem BsA.below {w w' : World} {a : Option Addr} {l : List UInt8} (h : BsA w a l) (k : Below w.heap.size w w') : BsA w' a l := by
  intro i x hx
  obtain ⟨g, o, ha, hg, hc⟩ := h i x hx
  exact ⟨g, o, ha, Nat.lt_of_lt_of_le hg k.size, (k.cell (p := ⟨g, _, none⟩) hg).trans hc⟩
theorem BsA.nil (w : World) (a : Option Addr) : BsA w a [] := fun k x hx => by simp at hx
theorem BsA.nil_len {w : World} {l : List UInt8} (h : BsA w none l) : l = [] := by
  cases l with
  | nil => rfl
  | cons x l => obtain ⟨g, o, ha, _⟩ := h 0 x rfl; cases ha
theorem BsA.take {w : World} {a : Option Addr} {l : List UInt8} (h : BsA w a l) (n : Nat) : BsA w a (l.take n) := by
  intro k x hx
  rw [List.getElem?_take] at hx
  split at hx
  · exact h k x hx
  · cases hx
theorem BsA.drop {w : World} {g o : Nat} {l : List UInt8} (h : BsA w (some ⟨g, o, none⟩) l) (n : Nat) : BsA w (some ⟨g, o + n, none⟩) (l.drop n) := by
  intro k x hx
  rw [List.getElem?_drop] at hx
  obtain ⟨g', o', e, hg, hc⟩ := h _ x hx
  cases e
  exact ⟨_, _, rfl, hg, by rw [Nat.add_assoc]; exact hc⟩
theorem BsA.cells {w : World} {ad : Addr} {l : List UInt8} (h : BsA w (some ad) l) : ∀ j u, (Lib.byteCells l)[j]? = some u → w.cell? (ad.add j) = some u := by
  intro j u hu
  obtain ⟨x, hx, rfl⟩ : ∃ x, l[j]? = some x ∧ Value.int .u8 (x.toNat : Int) = u := by simpa [Lib.byteCells] using hu
  obtain ⟨g, o, e, _, hcc⟩ := h j x hx
  cases e
  rw [add_plain]
  exact hcc
theorem bcells_len (l : List UInt8) : (Lib.byteCells l).length = l.length := by simp [Lib.byteCells]
theorem bcells_get {l : List UInt8} {k : Nat} {x : UInt8} (h : l[k]? = some x) : (Lib.byteCells l)[k]? = some (.int .u8 (x.toNat : Int)) := by
  simp [Lib.byteCells, h]
theorem mown_len {w : World} {B : Nat} {v : Value} {n : Nat} {l : List UInt8} (h : w.ownsRow B 5 1 v n (Lib.byteCells l)) : l.length = n := by
  have := h.1
  rw [bcells_len] at this; omega
/-- an owned row of bytes, as an argument -/
theorem BsA.own {w : World} {B : Nat} {v : Value} {n : Nat} {l : List UInt8} (h : w.ownsRow B 5 1 v n (Lib.byteCells l)) : ∃ a c, v = .slice a l.length c ∧ BsA w a l ∧ l.length ≤ c ∧ (a = none → c = 0) ∧ ∀ ad, a = some ad → B ≤ ad.block ∧ ad.block < w.heap.size := by
  have hl := mown_len h
  subst hl
  rcases h.2 with ⟨rfl, h0⟩ | ⟨g, cap, cur, rfl, hg, hh, hnc, hcm, hcs, htk⟩
  · obtain rfl := List.eq_nil_of_length_eq_zero h0
    exact ⟨none, 0, rfl, BsA.nil _ _, Nat.le_refl _, fun _ => rfl, fun ad e => by cases e⟩
  · refine ⟨_, cap, rfl, fun k x hx => ?_, hnc, fun e => (by cases e), fun ad e => ?_⟩
    · have := h.cells (g := g) rfl k _ (bcells_get hx)
      rw [add_plain] at this
      exact ⟨g, 0, rfl, (Array.getElem?_eq_some_iff.1 hh).1, this⟩
    · cases e
      exact ⟨hg, (Array.getElem?_eq_some_iff.1 hh).1⟩
theorem mown_base {w : World} {B B' : Nat} {e : TypeId} {size : Nat} {v : Value} {n : Nat} {xs : List Value} (hB : B' ≤ B) (h : w.ownsRow B e size v n xs) : w.ownsRow B' e size v n xs := by
  obtain ⟨h1, h2⟩ := h
  refine ⟨h1, ?_⟩
  rcases h2 with h2 | ⟨g, cap, cur, hv, hg, r⟩
  · exact .inl h2
  · exact .inr ⟨g, cap, cur, hv, Nat.le_trans hB hg, r⟩
theorem mown_cast {w : World} {B : Nat} {e : TypeId} {size : Nat} {v : Value} {n n' : Nat} {xs xs' : List Value} (h : w.ownsRow B e size v n xs) (hn : n = n') (hx : xs = xs') : w.ownsRow B e size v n' xs' := by
  subst hn hx; exact h
/-- a row stands where its block stands -/
theorem mown_block {w w' : World} {B : Nat} {e : TypeId} {size : Nat} {v : Value} {n : Nat} {xs : List Value} (h : w.ownsRow B e size v n xs) (k : ∀ g, v.ownBlock = some g → w'.heap[g]? = w.heap[g]?) : w'.ownsRow B e size v n xs := by
  refine ⟨h.1, ?_⟩
  rcases h.2 with hn | ⟨g, cap, cur, rfl, hb, hgg, rest⟩
  · exact .inl hn
  · exact .inr ⟨g, cap, cur, rfl, hb, by rw [k g rfl]; exact hgg, rest⟩
theorem mlit (w : World) (e : TypeId) (size B : Nat) (hB : B ≤ w.heap.size) : (w.alloc (.cells #[] e)).ownsRow B e size (.slice (some ⟨w.heap.size, 0, none⟩) 0 0) 0 [] :=
  World.ownsRow_made w #[] 0 hB (by decide) (by simp)
theorem mcells_new (w : World) (l : List Value) (t : TypeId) : ∀ j u, l[j]? = some u → (w.alloc (.cells l.toArray t)).cell? ((⟨w.heap.size, 0, none⟩ : Addr).add j) = some u := by
  intro j u hj
  have := cell_new w l.toArray t 0 0 j
  rw [Nat.zero_add] at this
  refine Eq.trans this ?_
  simpa using hj
theorem mbelow_grow {B : Nat} {w0 w w1 : World} {e : TypeId} {size : Nat} {v : Value} {n : Nat} {xs : List Value} (h : Below B w0 w) (hB : B ≤ w.heap.size) (hown : w.ownsRow B e size v n xs) (hg : w.grownBy w1 v.ownBlock) : Below B w0 w1 :=
  h.grown hg hB (fun k hk => (hown.lt k hk).1)
theorem minfo_u8 : (Tryd.prog.info? 5).map (fun i => (i.zero, i.size, i.bytes)) = some (some (.int .u8 0), 1, 1) := by kernel_rfl
theorem mcell_lt {w : World} {a : Addr} {v : Value} (h : w.cell? a = some v) : a.block < w.heap.size := by
  rcases Nat.lt_or_ge a.block w.heap.size with h' | h'
  · exact h'
  · simp [World.cell?, Array.getElem?_eq_none h'] at h

theorem mstep_append_own {P : Program} {w : World} {ops : Array Oper} {o : Oper} {a : Act} {K : Act → World → Prop} {Q : Exit → Act → World → Prop} {E : Prop} (hg : o.guard = none) (s x : Operand) (t : TypeId)
    (ho : o.op = .call { callee := .builtin .append, args := #[s, x], argTypes := #[t, t] })
    (base : Nat) (e : TypeId) (i : TypeInfo) (z : Value) (size bytes : Nat) (ht : P.underlying t = some (.slice e)) (hi : P.info? e = some i) (hz : i.zero = some z)
    (hsize : i.size = size) (hby : i.bytes = bytes) (hzs : z.cells.size = size) (hsz : 0 < size)
    (v : Value) (n : Nat) (xs : List Value) (hs : a.eval s = v) (hown : w.ownsRow base e size v n xs)
    (ad : Addr) (m c : Nat) (news : List Value) (hx : a.eval x = .slice (some ad) m c) (hl : news.length = m * size) (hnews : ∀ j u, news[j]? = some u → w.cell? (ad.add j) = some u) (h1 : ∀ u ∈ news, u.oneCell' = true)
    (h63 : n + m ≤ maxLen) (hbytes : (n + m) * bytes ≤ 140737488355328) (hbase : base ≤ w.heap.size)
    (h : ∀ v' w', w'.ownsRow base e size v' (n + m) (xs ++ news) → w.grownBy w' v.ownBlock → K (a.put o.dst v') w') :
    if Region.wanted o (yielded ops a.tmps) = true then Oper.wp P o a w K Q else E := by
  rw [if_pos (by simp [Region.wanted, hg])]
  exact wp_append_own w s x t ho base e i z size bytes ht hi hz hsize hby hzs hsz v n xs hs hown ad m c news hx hl hnews h1 h63 hbytes hbase fun v' w' h2 h3 _ => h v' w' h2 h3
def NoneHeld (w : World) : Prop := w = w
theorem mle_alloc {w : World} {B : Nat} (h : B ≤ w.heap.size) (o : Obj) : B ≤ (w.alloc o).heap.size := by rw [World.size_alloc]; omega

/-- a copy of bytes: nothing for nothing, else a row of the call's own -/
def CloneOut (w : World) (l : List UInt8) (e : Ending) (w' : World) : Prop := ∃ v, e = .returned v ∧ w'.ownsRow w.heap.size 5 1 v l.length (Lib.byteCells l) ∧ Below w.heap.size w w'

theorem nums_cells (l : List UInt8) : (l.map fun c => (c.toNat : Int)).map (Value.int .u8) = Lib.byteCells l := by
  simp [Lib.byteCells, Function.comp_def]
theorem clone_any (a : Option Addr) (c n : Nat) (l : List UInt8) (w : World) (h : BsA w a l) (hn : l.length = n) (hl : n ≤ 140737488355328) :
    Calls Tryd.prog 82 #[.slice a n c] w (CloneOut w l) := by
  subst hn
  cases a with
  | none =>
    obtain rfl := h.nil_len
    refine (Tryd.bytes_Clone_nil 0 c w).mono ?_
    rintro e w' ⟨rfl, rfl⟩
    exact ⟨_, rfl, World.ownsRow_nil _ _ _ _, Below.refl _ _⟩
  | some ad =>
    refine (Tryd.bytes_Clone_at ad l.length c (l.map fun c => (c.toNat : Int)) w (by simp) hl ?_).mono ?_
    · intro i hi
      have := h.cells i (.int .u8 (l[i].toNat : Int)) (bcells_get (List.getElem?_eq_getElem hi))
      rw [this]
      simp [List.getD_eq_getElem?_getD, hi]
    · rintro e w' ⟨v', rfl, hown, _, hb⟩
      rw [nums_cells] at hown
      exact ⟨_, rfl, hown, hb⟩
end Go.Proofs.YtaijdpckkobofaaDoor
