/- Texts and acts that came in. -/
import Derived.Test.YtaijdpckkobofaaDoorLaw21s
import Derived.Test.YtaijdpckkobofaaDoorOpenBytes
import Derived.Deep.Strs
namespace Go.Proofs.YtaijdpckkobofaaDoor
open Go.ChangeShapes Go.WideShapes Go.ChangeAt Go.RowKit
set_option linter.unusedVariables false

section
variable {H : Type} {enc : TypeId × Value → H} {P : Program} {w : World} {base : Nat} {spare : Nat → Bool} {held : Bool}
theorem trod_struct4 {t : TypeId} {f0 f1 f2 f3 : Field} {fuel : Nat} {cs : List Value} {x : DataW H × List MemPlace} (ht : P.underlying t = some (.struct #[f0, f1, f2, f3])) (h : DataW.trod enc P w base spare held fuel t cs = some x) :
    ∃ y0 y1 y2 y3 n, x = (.agg [y0.1, y1.1, y2.1, y3.1], y0.2 ++ (y1.2 ++ (y2.2 ++ y3.2))) ∧ cs.length = P.cellsOf t ∧ DataW.trod enc P w base spare held n f0.type ((cs.drop f0.offset).take (P.cellsOf f0.type)) = some y0 ∧
      DataW.trod enc P w base spare held n f1.type ((cs.drop f1.offset).take (P.cellsOf f1.type)) = some y1 ∧ DataW.trod enc P w base spare held n f2.type ((cs.drop f2.offset).take (P.cellsOf f2.type)) = some y2 ∧
      DataW.trod enc P w base spare held n f3.type ((cs.drop f3.offset).take (P.cellsOf f3.type)) = some y3 := by
  obtain ⟨xs, n, _, rfl, hl, hlen, hf⟩ := DataW.trod_struct ht h
  match xs, hlen with
  | [y0, y1, y2, y3], _ => exact ⟨y0, y1, y2, y3, n, by simp, hl, by simpa using hf 0 f0 rfl, by simpa using hf 1 f1 rfl, by simpa using hf 2 f2 rfl, by simpa using hf 3 f3 rfl⟩
theorem weights_mem_all {P : Program} {e : TypeId} : ∀ {ds : List (DataW H)} {j : Nat} {d : DataW H}, ds[j]? = some d → ∀ n ∈ d.weights P e, n ∈ DataW.weightsAll P e ds
  | d0 :: ds, 0, d, hd, n, hn => by
    simp only [List.getElem?_cons_zero, Option.some.injEq] at hd
    subst hd
    simp only [DataW.weightsAll, List.mem_append]
    exact Or.inl hn
  | d0 :: ds, j + 1, d, hd, n, hn => by
    simp only [List.getElem?_cons_succ] at hd
    simp only [DataW.weightsAll, List.mem_append]
    exact Or.inr (weights_mem_all hd n hn)
  | [], _, _, hd, _, _ => by simp at hd
/-- the weights of an element are weights of the slice -/
theorem weights_elem {P : Program} {t e : TypeId} {el sp : List (DataW H)} (ht : P.underlying t = some (.slice e)) {j : Nat} {d : DataW H} (hj : el[j]? = some d) : ∀ n ∈ d.weights P e, n ∈ (DataW.slice el sp).weights P t := by
  intro n hn
  rw [DataW.weights, ht]
  exact List.mem_cons_of_mem _ (List.mem_append_left _ (weights_mem_all hj n hn))
theorem weights_slice {P : Program} {t e : TypeId} {el sp : List (DataW H)} (ht : P.underlying t = some (.slice e)) : (el.length + sp.length) * P.bytesOf e ∈ (DataW.slice el sp).weights P t := by
  rw [DataW.weights, ht]
  exact List.mem_cons_self
theorem weights_part {P : Program} {t : TypeId} {fs : Array Field} {parts : List (DataW H)} (ht : P.underlying t = some (.struct fs)) {j : Nat} {f : Field} {d : DataW H} (hf : fs.toList[j]? = some f) (hd : parts[j]? = some d) : ∀ n ∈ d.weights P f.type, n ∈ (DataW.agg parts).weights P t := by
  intro n hn
  rw [DataW.weights, ht]
  exact DataW.weights_mem_each (by rw [List.getElem?_map, hf]; rfl) hd n hn
end

theorem len_four {α : Type} {l : List α} (h : l.length = 4) : ∃ a b c d, l = [a, b, c, d] := by
  match l, h with
  | [a, b, c, d], _ => exact ⟨a, b, c, d, rfl⟩
theorem cellsStr : Tryd.prog.cellsOf 9 = 1 := by kernel_rfl
theorem cellsInt : Tryd.prog.cellsOf 3 = 1 := by kernel_rfl
theorem cellsSlS : Tryd.prog.cellsOf 58 = 1 := by kernel_rfl
theorem bytesStr : Tryd.prog.bytesOf 9 = 16 := by kernel_rfl
theorem cellsAct : Tryd.prog.cellsOf 87 = 4 := by kernel_rfl
theorem bytesAct : Tryd.prog.bytesOf 87 = 56 := by kernel_rfl

variable {H : Type} {enc : TypeId × Value → H} {W : World}

theorem open_texts {fuel : Nat} {cs : List Value} {x : DataW H × List MemPlace} (h : DataW.trod enc Tryd.prog W 0 (fun _ => true) true fuel 58 cs = some x) :
    ∃ (a : Option Addr) (n c : Nat) (l : List ByteArray), cs = [.slice a n c] ∧ TextsAt W a l ∧ l.length = n ∧ n ≤ c ∧ (a = none → c = 0) ∧ ((∀ k ∈ x.1.weights Tryd.prog 58, k ≤ reachBytes) → n * 16 ≤ reachBytes) := by
  rcases Deep.open_slice Tryd.underlying58 h with ⟨rfl, _⟩ | ⟨a, len, cap, m, n, D, Pl, rfl, hb, hl, hm, hmm, hx, hel⟩
  · exact ⟨none, 0, 0, [], rfl, fun k x hx => by simp at hx, rfl, Nat.le_refl _, fun _ => rfl, fun _ => by omega⟩
  · simp only [if_true] at hmm
    subst hmm
    have each : ∀ i, ∃ y : ByteArray, i < m → W.cell? (a.add i) = some (.string y) := by
      intro i
      by_cases hi : i < m
      · obtain ⟨cs', hc, ht⟩ := hel i hi
        rw [cellsStr, Nat.mul_one] at hc
        obtain ⟨hlen, _, hcell⟩ := World.cells?_some hc
        obtain ⟨s, e0, _, _⟩ := DataW.trod_string Tryd.underlying9 ht
        refine ⟨s, fun _ => ?_⟩
        have h0 := hcell 0 (by omega)
        rw [e0] at h0
        have : (a.add i).add 0 = a.add i := by unfold Addr.add; split <;> simp_all
        rw [this] at h0
        rw [h0]
        rfl
      · exact ⟨⟨#[]⟩, fun h => absurd h hi⟩
    obtain ⟨f, hf⟩ := Classical.axiomOfChoice each
    refine ⟨some a, len, m, (List.range len).map f, rfl, ?_, by simp, hl, fun e => (by cases e), ?_⟩
    · intro k y hk
      have hkl : k < len := by
        have := (List.getElem?_eq_some_iff.1 hk).1
        simpa using this
      obtain rfl : f k = y := by simpa [hkl] using hk
      have hk0 := hf k (by omega)
      have hk00 := hf 0 (by omega)
      obtain ⟨g, o, sp⟩ := a
      have hsp : sp = none := by simpa [Addr.add] using World.cell?_spot hk00
      subst hsp
      rw [add_plain] at hk0
      exact ⟨g, o, rfl, World.block_lt_of_cell? W _ hk0, hk0⟩
    · intro hw
      rw [hx] at hw
      have := hw _ (weights_slice Tryd.underlying58)
      rw [bytesStr] at this
      simp only [List.length_map, List.length_range] at this
      have h2 : len * 16 ≤ (len + (m - len)) * 16 := Nat.mul_le_mul_right _ (by omega)
      omega

theorem open_act {fuel : Nat} {cs : List Value} {x : DataW H × List MemPlace} (h : DataW.trod enc Tryd.prog W 0 (fun _ => true) true fuel 87 cs = some x) (hw : ∀ k ∈ x.1.weights Tryd.prog 87, k ≤ reachBytes) :
    ∃ a : ActD, cs = [.int .i64 a.kind, .int .i64 a.n, .string a.text, .slice a.ta a.tn a.tc] ∧ ActOk W a := by
  obtain ⟨y0, y1, y2, y3, m, hx, hl, h0, h1, h2, h3⟩ := trod_struct4 Tryd.underlying87 h
  rw [cellsAct] at hl
  obtain ⟨a, b, c, d, rfl⟩ := len_four hl
  obtain ⟨u, e0, _, _⟩ := DataW.trod_int Tryd.underlying3 h0
  obtain ⟨v, e1, _, _⟩ := DataW.trod_int Tryd.underlying3 h1
  obtain ⟨t, e2, _, _⟩ := DataW.trod_string Tryd.underlying9 h2
  obtain ⟨ta, tn, tc, l, e3, hT, hTl, hTn, hT0, hTw⟩ := open_texts h3
  simp only [cellsInt, cellsStr, cellsSlS] at e0 e1 e2 e3
  simp at e0 e1 e2 e3
  refine ⟨⟨u, v, t, ta, tn, tc, l⟩, by rw [e0, e1, e2, e3], ⟨hT, hTl, hTn, hT0, ?_⟩⟩
  have hb := hTw (fun k hk => hw k (by
    rw [hx]
    exact weights_part (j := 3) Tryd.underlying87 rfl rfl k hk))
  have : reachBytes ≤ 140737488355328 := by decide
  show tn * 16 ≤ _
  omega

theorem open_acts {fuel : Nat} {cs : List Value} {x : DataW H × List MemPlace} (h : DataW.trod enc Tryd.prog W 0 (fun _ => true) true fuel 78 cs = some x) (hw : ∀ k ∈ x.1.weights Tryd.prog 78, k ≤ reachBytes) :
    ∃ (aa : Option Addr) (n c : Nat) (l : List ActD), cs = [.slice aa n c] ∧ ActsAt W aa l ∧ l.length = n ∧ n ≤ c ∧ (aa = none → c = 0) ∧ c ≤ 140737488355328 := by
  rcases Deep.open_slice Tryd.underlying78 h with ⟨rfl, _⟩ | ⟨a, len, cap, m, n, D, Pl, rfl, hb, hl, hm, hmm, hx, hel⟩
  · exact ⟨none, 0, 0, [], rfl, fun k x hx => by simp at hx, rfl, Nat.le_refl _, fun _ => rfl, by omega⟩
  · simp only [if_true] at hmm
    subst hmm
    have hmb : m ≤ 140737488355328 := by
      rw [hx] at hw
      have := hw _ (weights_slice Tryd.underlying78)
      rw [bytesAct] at this
      simp only [List.length_map, List.length_range] at this
      have hr : reachBytes ≤ 140737488355328 := by decide
      omega
    have each : ∀ i, ∃ y : ActD, i < len → (W.cell? ((a.add (i * 4)).add 0) = some (.int .i64 y.kind) ∧ W.cell? ((a.add (i * 4)).add 1) = some (.int .i64 y.n) ∧ W.cell? ((a.add (i * 4)).add 2) = some (.string y.text) ∧ W.cell? ((a.add (i * 4)).add 3) = some (.slice y.ta y.tn y.tc) ∧ ActOk W y) := by
      intro i
      by_cases hi : i < len
      · obtain ⟨cs', hc, ht⟩ := hel i (by omega)
        rw [cellsAct] at hc
        obtain ⟨y, rfl, hok⟩ := open_act ht (fun k hk => hw k (by
          rw [hx]
          exact weights_elem Tryd.underlying78 (j := i) (by simp [hi]) k hk))
        obtain ⟨_, _, hcell⟩ := World.cells?_some hc
        exact ⟨y, fun _ => ⟨hcell 0 (by omega), hcell 1 (by omega), hcell 2 (by omega), hcell 3 (by omega), hok⟩⟩
      · exact ⟨⟨0, 0, ⟨#[]⟩, none, 0, 0, []⟩, fun h => absurd h hi⟩
    obtain ⟨f, hf⟩ := Classical.axiomOfChoice each
    refine ⟨some a, len, m, (List.range len).map f, rfl, ?_, by simp, hl, fun e => (by cases e), hmb⟩
    intro k y hk
    have hkl : k < len := by
      have := (List.getElem?_eq_some_iff.1 hk).1
      simpa using this
    obtain rfl : f k = y := by simpa [hkl] using hk
    have hk0 := hf k hkl
    have hk00 := (hf 0 (by omega)).1
    obtain ⟨g, o, sp⟩ := a
    have hsp : sp = none := by simpa [Addr.add] using World.cell?_spot hk00
    subst hsp
    simp only [add_plain] at hk0
    exact ⟨g, o, rfl, World.block_lt_of_cell? W _ hk0.1, hk0⟩
end Go.Proofs.YtaijdpckkobofaaDoor
