/- code.Decode. (wip/gen_dec8.py) -/
import Derived.Test.YtaijdpckkobofaaDoorChk5
namespace Go.Proofs.YtaijdpckkobofaaDoor
open Go.RowKit
set_option linter.unusedVariables false

theorem own_slice_n {w : World} {B : Nat} {e : TypeId} {size : Nat} {v : Value} {n : Nat} {xs : List Value} (h : w.ownsRow B e size v n xs) : ∃ a c, v = .slice a n c := by
  rcases h.2 with ⟨rfl, rfl⟩ | ⟨g, cap, cur, rfl, _⟩
  · exact ⟨_, _, rfl⟩
  · exact ⟨_, _, rfl⟩
theorem setk_heap {w : World} {P i : Nat} {cs : Array Value} {t : TypeId} {fz : Nat × Nat} (h : w.heap[P]? = some (.cells cs t fz)) (v : Value) : (w.setCell ⟨P, i, none⟩ v).heap[P]? = some (.cells (cs.setIfInBounds i v) t fz) := by
  simp [World.setCell, Array.getElem?_modify, h]

/-- a program whose parts are the call's own -/
structure OwnPrg (B : Nat) (w : World) (p : PProg) (ca ma ra sa : Option Addr) (cc mc rc sc : Nat) : Prop where
  code : w.ownsRow B 33 3 (.slice ca p.code.length cc) p.code.length (pinsCells p.code)
  msgs : ∃ vs, w.ownsRow B 35 1 (.slice ma p.msgs.length mc) p.msgs.length vs ∧ OwnMs B w vs p.msgs
  routes : ∃ vs, w.ownsRow B 36 1 (.slice ra p.routes.length rc) p.routes.length vs ∧ OwnRs B w vs p.routes
  sends : ∃ vs, w.ownsRow B 39 3 (.slice sa p.sends.length sc) p.sends.length (specCells p.sends vs) ∧ OwnSs B w vs p.sends
  ops : ∀ x ∈ p.code, x.op ≤ 255
  big : p.code.length ≤ 65535 ∧ p.msgs.length ≤ 65535 ∧ p.routes.length ≤ 65535 ∧ p.sends.length ≤ 65535
  rl : ∀ x ∈ p.routes, x.length ≤ 255
  sl : ∀ x ∈ p.sends, x.routes.length ≤ 255

theorem flat_get {α : Type} {f : α → List Value} {m : Nat} (hf : ∀ x, (f x).length = m) : ∀ (l : List α) (k j : Nat) (x : α), l[k]? = some x → j < m → (l.flatMap f)[k * m + j]? = (f x)[j]?
  | [], k, j, x, h, _ => by simp at h
  | y :: l, 0, j, x, h, hj => by
    simp only [List.getElem?_cons_zero, Option.some.injEq] at h
    subst h
    rw [List.flatMap_cons, Nat.zero_mul, Nat.zero_add, List.getElem?_append_left (by rw [hf]; exact hj)]
  | y :: l, k + 1, j, x, h, hj => by
    simp only [List.getElem?_cons_succ] at h
    rw [List.flatMap_cons, List.getElem?_append_right (by rw [hf, Nat.succ_mul]; omega), hf]
    have : (k + 1) * m + j - m = k * m + j := by rw [Nat.succ_mul]; omega
    rw [this]
    exact flat_get hf l k j x h hj
/-- an element of an owned row -/
theorem RowAt.own {w : World} {B : Nat} {e : TypeId} {m : Nat} {a : Option Addr} {n c : Nat} {xs : List Value} (h : w.ownsRow B e m (.slice a n c) n xs) {k : Nat} {cs : List Value} (hk : k < n) (hx : ∀ (j : Nat) v, cs[j]? = some v → xs[k * m + j]? = some v) : RowAt w a m k cs := by
  rcases h.2 with ⟨_, h0⟩ | ⟨g, cap, cur, hv, hg, hh, hnc, hcm, hcs, htk⟩
  · omega
  · injection hv with e1 _ e2
    subst e1 e2
    refine ⟨g, 0, rfl, (Array.getElem?_eq_some_iff.1 hh).1, fun j v hv => ?_⟩
    have := h.cells (g := g) rfl (k * m + j) v (hx j v hv)
    rw [add_plain] at this
    rw [← this]; congr 2; omega
theorem BsA.ofOwn {w : World} {B : Nat} {a : Option Addr} {n c : Nat} {l : List UInt8} (h : w.ownsRow B 5 1 (.slice a n c) n (Lib.byteCells l)) : BsA w a l ∧ n ≤ c := by
  obtain ⟨a', c', hv, hA, hlc, _, _⟩ := BsA.own h
  injection hv with e1 e2 e3
  subst e1 e3
  exact ⟨hA, by omega⟩
theorem specCells_get : ∀ (ss : List PSpec) (vs : List Value) (k j : Nat) (s : PSpec) (v : Value), ss[k]? = some s → vs[k]? = some v → j < 3 → (specCells ss vs)[k * 3 + j]? = [Value.int .i64 s.msg, v, .int .i64 s.block][j]?
  | [], _, k, j, s, v, h, _, _ => by simp at h
  | _ :: _, [], k, j, s, v, _, h, _ => by simp at h
  | t :: ss, u :: vs, 0, j, s, v, h, h', hj => by
    simp only [List.getElem?_cons_zero, Option.some.injEq] at h h'
    subst h h'
    match j, hj with
    | 0, _ => rfl
    | 1, _ => rfl
    | 2, _ => rfl
  | t :: ss, u :: vs, k + 1, j, s, v, h, h', hj => by
    simp only [List.getElem?_cons_succ] at h h'
    have := specCells_get ss vs k j s v h h' hj
    rw [← this]
    have e : (k + 1) * 3 + j = (k * 3 + j) + 1 + 1 + 1 := by omega
    rw [e]
    rfl
theorem some_lt {α : Type} {l : List α} {k : Nat} {x : α} (h : l[k]? = some x) : k < l.length := (List.getElem?_eq_some_iff.1 h).1
theorem get_of_lt {α : Type} {l : List α} {k : Nat} (h : k < l.length) : ∃ x, l[k]? = some x := ⟨_, List.getElem?_eq_getElem h⟩

theorem OwnPrg.prgA {B : Nat} {w : World} {p : PProg} {ca ma ra sa : Option Addr} {cc mc rc sc : Nat} (h : OwnPrg B w p ca ma ra sa cc mc rc sc) : PrgA w p ca cc ma mc ra rc sa sc := by
  obtain ⟨b1, b2, b3, b4⟩ := h.big
  refine ⟨?_, ?_, ?_, ?_, by omega, by omega, by omega, by omega, fun k x hx => by have := h.rl x (List.mem_of_getElem? hx); omega, fun k x hx => by have := h.sl x (List.mem_of_getElem? hx); omega⟩
  · intro k x hx
    refine ⟨h.ops x (List.mem_of_getElem? hx), RowAt.own h.code (some_lt hx) fun j v hv => ?_⟩
    have := flat_get (f := PIns.cells) (m := 3) (fun _ => rfl) p.code k j x hx (by have := some_lt hv; exact this)
    rw [pinsCells, this]; exact hv
  · intro k x hx
    obtain ⟨vs, ho, hm⟩ := h.msgs
    obtain ⟨v, hv⟩ := get_of_lt (l := vs) (k := k) (by rw [hm.len]; exact some_lt hx)
    have hr := hm.own k v x hv hx
    obtain ⟨a, c, rfl⟩ := own_slice_n hr
    obtain ⟨hA, hc⟩ := BsA.ofOwn hr
    refine ⟨a, c, RowAt.own ho (some_lt hx) fun j u hu => ?_, hA, hc⟩
    have hj : j = 0 := by have := some_lt hu; simp at this; omega
    subst hj
    simp at hu
    subst hu
    simpa using hv
  · intro k x hx
    obtain ⟨vs, ho, hm⟩ := h.routes
    obtain ⟨v, hv⟩ := get_of_lt (l := vs) (k := k) (by rw [hm.len]; exact some_lt hx)
    have hr := hm.own k v x hv hx
    obtain ⟨a, c, rfl⟩ := own_slice_n hr
    refine ⟨a, c, RowAt.own ho (some_lt hx) fun j u hu => ?_, fun i y hy => RowAt.own hr (some_lt hy) fun j u hu => ?_, ?_⟩
    · have hj : j = 0 := by have := some_lt hu; simp at this; omega
      subst hj
      simp at hu
      subst hu
      simpa using hv
    · have := flat_get (f := PStop.cells) (m := 3) (fun _ => rfl) x i j y hy (by have := some_lt hu; exact this)
      rw [stopsCells, this]; exact hu
    · rcases hr.2 with ⟨hn, h0⟩ | ⟨g, cap, cur, hv', _, _, hnc, _⟩
      · injection hn with _ _ e; omega
      · injection hv' with _ _ e; omega
  · intro k x hx
    obtain ⟨vs, ho, hm⟩ := h.sends
    obtain ⟨v, hv⟩ := get_of_lt (l := vs) (k := k) (by rw [hm.len]; exact some_lt hx)
    have hr := hm.own k v x hv hx
    obtain ⟨a, c, rfl⟩ := own_slice_n hr
    refine ⟨a, c, RowAt.own ho (some_lt hx) fun j u hu => ?_, fun i y hy => RowAt.own hr (some_lt hy) fun j u hu => ?_, ?_⟩
    · rw [specCells_get p.sends vs k j x _ hx hv (by have := some_lt hu; exact this)]; exact hu
    · have hj : j = 0 := by have := some_lt hu; simp at this; omega
      subst hj
      simp at hu
      subst hu
      simp [intsCells, hy]
    · rcases hr.2 with ⟨hn, h0⟩ | ⟨g, cap, cur, hv', _, _, hnc, _⟩
      · injection hn with _ _ e; omega
      · injection hv' with _ _ e; omega

def zeroPrg : Value := .agg #[.slice none 0 0, .slice none 0 0, .slice none 0 0, .slice none 0 0, .int .i64 0, .int .i64 0, .int .i64 0, .int .i64 0]
def DecOut (bs : List UInt8) (w : World) (e : Ending) (w' : World) : Prop :=
  Below w.heap.size w w' ∧ match decodeP bs with
  | .inl k => e = .returned (.tuple #[zeroPrg, .int .i64 (k : Int)])
  | .inr p => ∃ ca ma ra sa cc mc rc sc, e = .returned (.tuple #[prgV p ca cc ma mc ra rc sa sc, .int .i64 0]) ∧ OwnPrg w.heap.size w' p ca ma ra sa cc mc rc sc
end Go.Proofs.YtaijdpckkobofaaDoor
