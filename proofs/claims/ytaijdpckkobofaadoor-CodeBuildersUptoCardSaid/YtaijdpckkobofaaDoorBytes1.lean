/- Bytes in memory: an owned row of bytes as a string; two appends of strings. -/
import Derived.Test.YtaijdpckkobofaaDoorKit2
import Derived.Lib.AppendStr
import Derived.Lib.ItoaMem
namespace Go.Proofs.YtaijdpckkobofaaDoor
open Go.RowKit
set_option linter.unusedVariables false

theorem info_u8 : (Tryd.prog.info? 5).map (fun i => (i.zero, i.size, i.bytes)) = some (some (.int .u8 0), 1, 1) := by kernel_rfl

/-- string(b) of an owned row of bytes -/
theorem conv_own {w : World} {B : Nat} {v : Value} {n : Nat} {l : List UInt8} (h : w.ownsRow B 5 1 v n (Lib.byteCells l)) : (convert 35 9 v).run Tryd.prog w = .ok (.string ⟨l.toArray⟩) w := by
  have hl := h.1
  rcases h.2 with ⟨rfl, hn⟩ | ⟨g, cap, cur, rfl, hg, hh, hnc, hcm, hcs, htk⟩
  · have : l = [] := List.eq_nil_of_length_eq_zero (by simp [Lib.byteCells] at hl; omega)
    subst this
    have := run_convert_bytes_nil (P := Tryd.prog) w 35 5 Tryd.underlying35 Tryd.underlying5 0 0 9 Tryd.underlying9
    exact this
  · have hll : l.length = n := by simp [Lib.byteCells] at hl; omega
    subst hll
    refine run_convert_bytes_back (P := Tryd.prog) w 35 9 5 ⟨g, 0, none⟩ cap l Tryd.underlying35 Tryd.underlying5 Tryd.underlying9 ?_
    intro j hj
    refine h.cells (g := g) rfl j _ ?_
    simp [Lib.byteCells, hj]


theorem step_append_str {P : Program} {w : World} {ops : Array Oper} {o : Oper} {a : Act} {K : Act → World → Prop} {Q : Exit → Act → World → Prop} {E : Prop} (hg : o.guard = none) (sl x : Operand) (t u : TypeId)
    (ho : o.op = .call { callee := .builtin .append, args := #[sl, x], argTypes := #[t, u] })
    (base : Nat) (e : TypeId) (i : TypeInfo) (ht : P.underlying t = some (.slice e)) (hu : P.underlying u = some .string) (hi : P.info? e = some i) (hz : i.zero = some (.int .u8 0))
    (hsize : i.size = 1) (hby : i.bytes = 1)
    (v : Value) (n : Nat) (xs : List Value) (hs : a.eval sl = v) (hown : w.ownsRow base e 1 v n xs) (s : ByteArray) (hx : a.eval x = .string s)
    (h63 : n + s.size ≤ maxLen) (hbytes : n + s.size ≤ 140737488355328) (hbase : base ≤ w.heap.size)
    (h : ∀ v' w', w'.ownsRow base e 1 v' (n + s.size) (xs ++ Lib.strCells s) → w.grownBy w' v.ownBlock → K (a.put o.dst v') w') :
    if Region.wanted o (yielded ops a.tmps) = true then Oper.wp P o a w K Q else E := by
  rw [if_pos (by simp [Region.wanted, hg])]
  obtain ⟨v', w', hr, h2, h3, h4⟩ := Lib.run_append_own_string (P := P) w base t u o.type e i ht hu hi hz hsize hby v n xs hown s h63 hbytes hbase
  unfold Oper.wp execOp
  simp only [ho, resolve, invoke, builtin, Sem.run_bind, Sem.run_pure, Result.andThen_ok, List.map_toArray, List.map_cons, List.map_nil, hs, hx, hr]
  exact h v' w' h2 h3

theorem strCells_bytes (s : ByteArray) : Lib.strCells s = Lib.byteCells s.data.toList := rfl

/-- a value that reads as bytes -/
def ByIn (w : World) (v : Value) (l : List UInt8) : Prop :=
  (l = [] ∧ ∃ a c, v = .slice a 0 c) ∨ ∃ g o c, v = .slice (some ⟨g, o, none⟩) l.length c ∧ 0 < l.length ∧ g < w.heap.size ∧ ∀ (k : Nat) (x : UInt8), l[k]? = some x → w.cell? ⟨g, o + k, none⟩ = some (.int .u8 (x.toNat : Int))
theorem ByIn.below {w w' : World} {v : Value} {l : List UInt8} (h : ByIn w v l) (k : Below w.heap.size w w') : ByIn w' v l := by
  rcases h with h | ⟨g, o, c, hv, h0, hg, hc⟩
  · exact Or.inl h
  · exact Or.inr ⟨g, o, c, hv, h0, Nat.lt_of_lt_of_le hg k.size, fun i x hx => (k.cell (p := ⟨g, _, none⟩) hg).trans (hc i x hx)⟩
theorem byteCells_get {l : List UInt8} {k : Nat} {x : UInt8} (h : l[k]? = some x) : (Lib.byteCells l)[k]? = some (.int .u8 (x.toNat : Int)) := by
  simp [Lib.byteCells, h]
theorem ByIn.own {w : World} {B : Nat} {v : Value} {n : Nat} {l : List UInt8} (h : w.ownsRow B 5 1 v n (Lib.byteCells l)) : ByIn w v l := by
  have hl := h.1
  have hln : l.length = n := by simp [Lib.byteCells] at hl; omega
  subst hln
  rcases Nat.eq_zero_or_pos l.length with h0 | h0
  · have : l = [] := List.eq_nil_of_length_eq_zero h0
    subst this
    rcases h.2 with ⟨rfl, _⟩ | ⟨g, cap, cur, rfl, _⟩
    · exact Or.inl ⟨rfl, _, _, rfl⟩
    · exact Or.inl ⟨rfl, _, _, rfl⟩
  · rcases h.2 with ⟨rfl, hn⟩ | ⟨g, cap, cur, rfl, hg, hh, r⟩
    · omega
    · refine Or.inr ⟨g, 0, cap, rfl, h0, (Array.getElem?_eq_some_iff.1 hh).1, fun k x hx => ?_⟩
      have := h.cells (g := g) rfl k _ (byteCells_get hx)
      rw [add_plain] at this
      exact this
end Go.Proofs.YtaijdpckkobofaaDoor
