/- The law's acts as they came in, and how great they are. -/
import Derived.Test.YtaijdpckkobofaaDoorRows
import Derived.Test.YtaijdpckkobofaaDoorBLaw2
import Derived.Deep.Slices
import Derived.Deep.Strs
import Derived.OpenShut
import Derived.ProofKit
import Derived.SizedLaws
namespace Go.Proofs.YtaijdpckkobofaaDoor
open Go.ChangeShapes Go.WideShapes Go.ChangeAt Go.RowKit
set_option linter.unusedVariables false

variable {H : Type} {enc : TypeId × Value → H} {W : World}

theorem bulk_sum (D : Nat → DataW H) (sz : Nat → Nat) : ∀ n, (∀ i, i < n → sz i ≤ Rows.uptoBulk (D i)) → ((List.range n).map sz).sum ≤ Rows.uptoBulkAll ((List.range n).map D)
  | 0, _ => by simp [Rows.uptoBulkAll]
  | n + 1, h => by
    have ih := bulk_sum D sz n fun i hi => h i (by omega)
    have hn := h n (by omega)
    have app : ∀ (l r : List (DataW H)), Rows.uptoBulkAll (l ++ r) = Rows.uptoBulkAll l + Rows.uptoBulkAll r := fun l r => by
      induction l with
      | nil => simp [Rows.uptoBulkAll]
      | cons x l ih => simp only [List.cons_append, Rows.uptoBulkAll, ih]; omega
    rw [List.range_succ, List.map_append, List.map_append, List.sum_append, app]
    simp only [List.map_cons, List.map_nil, List.sum_cons, List.sum_nil, Rows.uptoBulkAll]
    omega
theorem bulk_pos (d : DataW H) : 1 ≤ Rows.uptoBulk d := by
  cases d with
  | lit l => cases l <;> simp [Rows.uptoBulk]
  | nil => simp [Rows.uptoBulk]
  | ptr d => simp [Rows.uptoBulk]
  | slice elems spare => simp [Rows.uptoBulk]
  | agg parts => simp [Rows.uptoBulk]
  | iface t d => simp [Rows.uptoBulk]
  | map entries => simp [Rows.uptoBulk]
  | held h => simp [Rows.uptoBulk]

/-- a slice that came in, its elements each opened by op -/
theorem open_list {α : Type} {m : Nat} {e t : TypeId} (hm : 0 < m) (ht : Tryd.prog.underlying t = some (.slice e)) (hce : Tryd.prog.cellsOf e = m) (cf : α → List Value) (hcf : ∀ y, (cf y).length = m) (Q : α → Prop) (sz : α → Nat) (y0 : α)
    (op : ∀ (n : Nat) (cs : List Value) (x : DataW H × List MemPlace), DataW.trod enc Tryd.prog W 0 (fun _ => true) true n e cs = some x → ∃ y, cs = cf y ∧ Q y ∧ sz y ≤ Rows.uptoBulk x.1)
    {fuel : Nat} {cs : List Value} {x : DataW H × List MemPlace} (h : DataW.trod enc Tryd.prog W 0 (fun _ => true) true fuel t cs = some x) :
    ∃ (a : Option Addr) (c : Nat) (l : List α), cs = [.slice a l.length c] ∧ (∀ k y, l[k]? = some y → Q y ∧ RowAt W a m k (cf y)) ∧ (a = none → c = 0) ∧ (l.map sz).sum + 1 ≤ Rows.uptoBulk x.1 := by
  rcases Deep.open_slice ht h with ⟨rfl, rfl⟩ | ⟨a, len, cap, mm, n, D, Pl, rfl, hb, hl, hmx, hmm, rfl, hel⟩
  · exact ⟨none, 0, [], rfl, fun k y hk => by simp at hk, fun _ => rfl, by simp [Rows.uptoBulk]⟩
  · simp only [if_true] at hmm
    subst hmm
    have each : ∀ i, ∃ y : α, i < len → (Q y ∧ sz y ≤ Rows.uptoBulk (D i) ∧ ∀ (j : Nat) v, (cf y)[j]? = some v → W.cell? ((a.add (i * m)).add j) = some v) := by
      intro i
      by_cases hi : i < len
      · obtain ⟨cs', hc, htr⟩ := hel i (by omega)
        rw [hce] at hc
        obtain ⟨y, rfl, hq, hs⟩ := op _ _ _ htr
        obtain ⟨hlen, _, hcell⟩ := World.cells?_some hc
        refine ⟨y, fun _ => ⟨hq, hs, fun j v hv => ?_⟩⟩
        have hj := some_lt hv
        rw [hcell j (by rw [hcf] at hj; exact hj)]
        exact hv
      · exact ⟨y0, fun h => absurd h hi⟩
    obtain ⟨f, hf⟩ := Classical.axiomOfChoice each
    refine ⟨some a, mm, (List.range len).map f, by simp, ?_, (fun e => by cases e), ?_⟩
    · intro k y hk
      have hkl : k < len := by
        have := (List.getElem?_eq_some_iff.1 hk).1
        simpa using this
      obtain rfl : f k = y := by simpa [hkl] using hk
      obtain ⟨hq, _, hc⟩ := hf k hkl
      obtain ⟨_, _, hc0⟩ := hf 0 (by omega)
      obtain ⟨v0, hv0⟩ := get_of_lt (l := cf (f 0)) (k := 0) (by rw [hcf]; exact hm)
      have h00 := hc0 0 v0 hv0
      obtain ⟨g, o, sp⟩ := a
      obtain rfl : sp = none := by simpa [Addr.add] using World.cell?_spot h00
      obtain ⟨vk, hvk⟩ := get_of_lt (l := cf (f k)) (k := 0) (by rw [hcf]; exact hm)
      have hk0 := hc 0 vk hvk
      simp only [add_plain] at hk0
      exact ⟨hq, g, o, rfl, World.block_lt_of_cell? W _ hk0, fun j v hv => by have := hc j v hv; simp only [add_plain] at this; exact this⟩
    · have := bulk_sum D (fun i => sz (f i)) len fun i hi => (hf i hi).2.1
      simp only [Rows.uptoBulk, List.map_map]
      have e1 : (List.range len).map (sz ∘ f) = (List.range len).map (fun i => sz (f i)) := rfl
      rw [e1]
      omega

theorem oc_u8 : Tryd.prog.cellsOf 5 = 1 := by kernel_rfl
theorem oc_int : Tryd.prog.cellsOf 3 = 1 := by kernel_rfl
theorem oc_str : Tryd.prog.cellsOf 9 = 1 := by kernel_rfl
theorem oc_ins : Tryd.prog.cellsOf 33 = 3 := by kernel_rfl
theorem oc_stop : Tryd.prog.cellsOf 64 = 3 := by kernel_rfl
theorem oc_spec : Tryd.prog.cellsOf 39 = 3 := by kernel_rfl
theorem oc_slins : Tryd.prog.cellsOf 23 = 1 := by kernel_rfl
theorem oc_slu8 : Tryd.prog.cellsOf 35 = 1 := by kernel_rfl
theorem oc_slstop : Tryd.prog.cellsOf 36 = 1 := by kernel_rfl
theorem oc_slint : Tryd.prog.cellsOf 37 = 1 := by kernel_rfl
theorem oc_act : Tryd.prog.cellsOf 41 = 9 := by kernel_rfl
theorem olen3 {α : Type} {l : List α} (h : l.length = 3) : ∃ a b c, l = [a, b, c] := by
  match l, h with
  | [a, b, c], _ => exact ⟨a, b, c, rfl⟩
theorem olen9 {α : Type} {l : List α} (h : l.length = 9) : ∃ a b c d e f g i j, l = [a, b, c, d, e, f, g, i, j] := by
  match l, h with
  | [a, b, c, d, e, f, g, i, j], _ => exact ⟨a, b, c, d, e, f, g, i, j, rfl⟩

theorem open_u8 (n : Nat) (cs : List Value) (x : DataW H × List MemPlace) (h : DataW.trod enc Tryd.prog W 0 (fun _ => true) true n 5 cs = some x) : ∃ y : UInt8, cs = [.int .u8 (y.toNat : Int)] ∧ True ∧ 1 ≤ Rows.uptoBulk x.1 := by
  obtain ⟨z, e0, _, w0⟩ := DataW.trod_int Tryd.underlying5 h
  have b0 := bounds_u8 w0
  refine ⟨UInt8.ofNat z.toNat, ?_, trivial, bulk_pos _⟩
  have hz : ((UInt8.ofNat z.toNat).toNat : Int) = z := by simp; omega
  rw [hz]
  simpa [oc_u8] using e0
theorem open_i64 (n : Nat) (cs : List Value) (x : DataW H × List MemPlace) (h : DataW.trod enc Tryd.prog W 0 (fun _ => true) true n 3 cs = some x) : ∃ y : Int, cs = [.int .i64 y] ∧ True ∧ 1 ≤ Rows.uptoBulk x.1 := by
  obtain ⟨z, e0, _, w0⟩ := DataW.trod_int Tryd.underlying3 h
  exact ⟨z, by simpa [oc_int] using e0, trivial, bulk_pos _⟩
theorem open_ins (n : Nat) (cs : List Value) (x : DataW H × List MemPlace) (h : DataW.trod enc Tryd.prog W 0 (fun _ => true) true n 33 cs = some x) : ∃ y : PIns, cs = y.cells ∧ y.op ≤ 255 ∧ 1 ≤ Rows.uptoBulk x.1 := by
  obtain ⟨y0, y1, y2, m, _, hl, h0, h1, h2⟩ := Deep.trod_struct3 Tryd.underlying33 h
  rw [oc_ins] at hl
  obtain ⟨a, b, c, rfl⟩ := olen3 hl
  obtain ⟨u, e0, _, w0⟩ := DataW.trod_int Tryd.underlying5 h0
  obtain ⟨v, e1, _, _⟩ := DataW.trod_int Tryd.underlying3 h1
  obtain ⟨t, e2, _, _⟩ := DataW.trod_int Tryd.underlying3 h2
  simp only [oc_u8, oc_int] at e0 e1 e2
  have b0 := bounds_u8 w0
  refine ⟨⟨u.toNat, v, t⟩, ?_, by show u.toNat ≤ 255; omega, bulk_pos _⟩
  have hu : ((u.toNat : Nat) : Int) = u := by omega
  show _ = [Value.int .u8 ((u.toNat : Nat) : Int), .int .i64 v, .int .i64 t]
  rw [hu]
  simp at e0 e1 e2
  rw [e0, e1, e2]
theorem open_stop (n : Nat) (cs : List Value) (x : DataW H × List MemPlace) (h : DataW.trod enc Tryd.prog W 0 (fun _ => true) true n 64 cs = some x) : ∃ y : PStop, cs = y.cells ∧ True ∧ 1 ≤ Rows.uptoBulk x.1 := by
  obtain ⟨y0, y1, y2, m, _, hl, h0, h1, h2⟩ := Deep.trod_struct3 Tryd.underlying64 h
  rw [oc_stop] at hl
  obtain ⟨a, b, c, rfl⟩ := olen3 hl
  obtain ⟨s, e0, _, _⟩ := DataW.trod_string Tryd.underlying9 h0
  obtain ⟨v, e1, _, _⟩ := DataW.trod_int Tryd.underlying3 h1
  obtain ⟨t, e2, _, _⟩ := DataW.trod_int Tryd.underlying3 h2
  simp only [oc_str, oc_int] at e0 e1 e2
  refine ⟨⟨s.data.toList, v, t⟩, ?_, trivial, bulk_pos _⟩
  show _ = [Value.string ⟨s.data.toList.toArray⟩, .int .i64 v, .int .i64 t]
  simp at e0 e1 e2
  rw [e0, e1, e2]
end Go.Proofs.YtaijdpckkobofaaDoor
