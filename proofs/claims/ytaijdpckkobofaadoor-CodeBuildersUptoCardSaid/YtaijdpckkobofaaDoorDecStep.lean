/- What a reader with a flag leaves, in plain Lean: a step, a chain of steps, a loop. -/
import Derived.Test.YtaijdpckkobofaaDoorCodeDef
namespace Go.Proofs.YtaijdpckkobofaaDoor
set_option linter.unusedVariables false

/-- en: it had ended before; en': it has ended behind -/
def Step {α : Type} (en : Bool) (r : Option (α × List UInt8)) (en' : Bool) (x : α) (rest : List UInt8) : Prop :=
  (en' = false ∧ en = false ∧ r = some (x, rest)) ∨ (en' = true ∧ (en = true ∨ r = none))

theorem Step.ok {α : Type} {en : Bool} {r : Option (α × List UInt8)} {x : α} {rest : List UInt8} (h : Step en r false x rest) : en = false ∧ r = some (x, rest) := by
  rcases h with ⟨_, h1, h2⟩ | ⟨h, _⟩
  · exact ⟨h1, h2⟩
  · cases h
theorem Step.bad {α : Type} {r : Option (α × List UInt8)} {x : α} {rest : List UInt8} (h : Step false r true x rest) : r = none := by
  rcases h with ⟨h, _⟩ | ⟨_, h | h⟩
  · cases h
  · cases h
  · exact h
theorem Step.of_some {α : Type} {r : Option (α × List UInt8)} {x : α} {rest : List UInt8} (h : r = some (x, rest)) : Step false r false x rest := Or.inl ⟨rfl, rfl, h⟩
theorem Step.of_none {α : Type} {en : Bool} {r : Option (α × List UInt8)} {x : α} {rest : List UInt8} (h : r = none) : Step en r true x rest := Or.inr ⟨rfl, Or.inr h⟩
theorem Step.of_end {α : Type} {r : Option (α × List UInt8)} {x : α} {rest : List UInt8} : Step true r true x rest := Or.inr ⟨rfl, Or.inl rfl⟩
/-- one behind the other -/
theorem Step.bind {α β γ : Type} {en e1 e2 : Bool} {r : Option (α × List UInt8)} {x : α} {l1 : List UInt8} {f : α × List UInt8 → Option (β × List UInt8)} {y : β} {l2 : List UInt8} (h : Step en r e1 x l1) (k : Step e1 (f (x, l1)) e2 y l2) : Step en (r.bind f) e2 y l2 := by
  rcases k with ⟨rfl, rfl, k⟩ | ⟨rfl, k | k⟩
  · obtain ⟨rfl, rfl⟩ := h.ok
    exact Or.inl ⟨rfl, rfl, k⟩
  · subst k
    rcases h with ⟨h, _⟩ | ⟨_, h | h⟩
    · cases h
    · exact Or.inr ⟨rfl, Or.inl h⟩
    · subst h; exact Or.inr ⟨rfl, Or.inr rfl⟩
  · rcases h with ⟨_, rfl, h⟩ | ⟨_, h | h⟩
    · subst h; exact Or.inr ⟨rfl, Or.inr k⟩
    · exact Or.inr ⟨rfl, Or.inl h⟩
    · subst h; exact Or.inr ⟨rfl, Or.inr rfl⟩
theorem Step.map {α β : Type} {en e1 : Bool} {r : Option (α × List UInt8)} {x : α} {l1 : List UInt8} (g : α → β) (h : Step en r e1 x l1) : Step en (r.bind fun z => some (g z.1, z.2)) e1 (g x) l1 := by
  rcases h with ⟨rfl, rfl, rfl⟩ | ⟨rfl, h | rfl⟩
  · exact Or.inl ⟨rfl, rfl, rfl⟩
  · exact Or.inr ⟨rfl, Or.inl h⟩
  · exact Or.inr ⟨rfl, Or.inr rfl⟩

theorem Step.ins {en e1 e2 e3 : Bool} {x y z : Nat} {l l1 l2 l3 : List UInt8} (h1 : Step en (numR 1 l) e1 x l1) (h2 : Step e1 (numR 4 l1) e2 y l2) (h3 : Step e2 (numR 2 l2) e3 z l3) : Step en (insR l) e3 ⟨x, sgn32 y, z⟩ l3 :=
  h1.bind (γ := Unit) (h2.bind (γ := Unit) (h3.map fun z : Nat => (⟨x, sgn32 y, z⟩ : PIns)))
theorem Step.msg {en e1 e2 : Bool} {x : Nat} {m l l1 l2 : List UInt8} (h1 : Step en (numR 2 l) e1 x l1) (h2 : Step e1 (takeR x l1) e2 m l2) : Step en (msgR l) e2 m l2 := h1.bind (γ := Unit) h2
theorem Step.stop {en e1 e2 e3 e4 : Bool} {x z u : Nat} {m l l1 l2 l3 l4 : List UInt8} (h1 : Step en (numR 1 l) e1 x l1) (h2 : Step e1 (takeR x l1) e2 m l2) (h3 : Step e2 (numR 4 l2) e3 z l3) (h4 : Step e3 (numR 1 l3) e4 u l4) : Step en (stopR l) e4 ⟨m, z, u⟩ l4 :=
  h1.bind (γ := Unit) (h2.bind (γ := Unit) (h3.bind (γ := Unit) (h4.map fun u : Nat => (⟨m, z, u⟩ : PStop))))
theorem Step.route {en e1 e2 : Bool} {x : Nat} {ss : List PStop} {l l1 l2 : List UInt8} (h1 : Step en (numR 1 l) e1 x l1) (h2 : Step e1 (moreR stopR x [] l1) e2 ss l2) : Step en (routeR l) e2 ss l2 := h1.bind (γ := Unit) h2
theorem Step.int {en e1 : Bool} {x : Nat} {l l1 : List UInt8} (h1 : Step en (numR 1 l) e1 x l1) : Step en (intR l) e1 (x : Int) l1 := h1.map fun x : Nat => (x : Int)
theorem Step.spec {en e1 e2 e3 e4 : Bool} {x y u : Nat} {rs : List Int} {l l1 l2 l3 l4 : List UInt8} (h1 : Step en (numR 1 l) e1 x l1) (h2 : Step e1 (numR 1 l1) e2 y l2) (h3 : Step e2 (moreR intR y [] l2) e3 rs l3) (h4 : Step e3 (numR 1 l3) e4 u l4) : Step en (specR l) e4 ⟨x, rs, (u : Int) - 1⟩ l4 :=
  h1.bind (γ := Unit) (h2.bind (γ := Unit) (h3.bind (γ := Unit) (h4.map fun u : Nat => (⟨x, rs, (u : Int) - 1⟩ : PSpec))))

theorem moreR_some {α : Type} {p : List UInt8 → Option (α × List UInt8)} {n : Nat} {acc : List α} {l l' : List UInt8} {x : α} (h : p l = some (x, l')) : moreR p (n + 1) acc l = moreR p n (acc ++ [x]) l' := by
  rw [moreR, h]
theorem moreR_none {α : Type} {p : List UInt8 → Option (α × List UInt8)} {n : Nat} {acc : List α} {l : List UInt8} (h : p l = none) : moreR p (n + 1) acc l = none := by
  rw [moreR, h]
/-- a loop that has done i of N rounds -/
def LoopS {α : Type} (p : List UInt8 → Option (α × List UInt8)) (N : Nat) (l0 : List UInt8) (en0 : Bool) (i : Nat) (acc : List α) (l : List UInt8) (en : Bool) : Prop :=
  (en = false ∧ en0 = false ∧ moreR p (N - i) acc l = moreR p N [] l0) ∨ (en = true ∧ (en0 = true ∨ moreR p N [] l0 = none))
theorem LoopS.start {α : Type} {p : List UInt8 → Option (α × List UInt8)} {N : Nat} {l0 : List UInt8} {en0 : Bool} : LoopS p N l0 en0 0 [] l0 en0 := by
  cases en0
  · exact Or.inl ⟨rfl, rfl, rfl⟩
  · exact Or.inr ⟨rfl, Or.inl rfl⟩
theorem LoopS.step {α : Type} {p : List UInt8 → Option (α × List UInt8)} {N i : Nat} {l0 l l' : List UInt8} {en0 en' : Bool} {acc : List α} {x : α} (h : LoopS p N l0 en0 i acc l false) (hi : i < N) (k : Step false (p l) en' x l') : LoopS p N l0 en0 (i + 1) (acc ++ [x]) l' en' := by
  rcases h with ⟨_, rfl, h⟩ | ⟨h, _⟩
  · have e : N - i = (N - (i + 1)) + 1 := by omega
    rw [e] at h
    cases en'
    · rw [moreR_some k.ok.2] at h
      exact Or.inl ⟨rfl, rfl, h⟩
    · rw [moreR_none k.bad] at h
      exact Or.inr ⟨rfl, Or.inr h.symm⟩
  · cases h
theorem LoopS.stop {α : Type} {p : List UInt8 → Option (α × List UInt8)} {N i : Nat} {l0 l : List UInt8} {en0 en : Bool} {acc : List α} (h : LoopS p N l0 en0 i acc l en) (hi : N ≤ i ∨ en = true) : Step en0 (moreR p N [] l0) en acc l := by
  rcases h with ⟨rfl, rfl, h⟩ | ⟨rfl, h⟩
  · rcases hi with hi | hi
    · have e : N - i = 0 := by omega
      rw [e] at h
      exact Or.inl ⟨rfl, rfl, h.symm⟩
    · cases hi
  · exact Or.inr ⟨rfl, h⟩
theorem Step.body {en e1 e2 e3 e4 : Bool} {h0 h1 h2 h3 : Nat} {v s b f : Int} {cs : List PIns} {ms : List (List UInt8)} {rs : List (List PStop)} {ss : List PSpec} {l l1 l2 l3 l4 : List UInt8}
    (k1 : Step en (moreR insR h0 [] l) e1 cs l1) (k2 : Step e1 (moreR msgR h1 [] l1) e2 ms l2) (k3 : Step e2 (moreR routeR h2 [] l2) e3 rs l3) (k4 : Step e3 (moreR specR h3 [] l3) e4 ss l4) : Step en (bodyR h0 h1 h2 h3 v s b f l) e4 ⟨cs, ms, rs, ss, v, s, b, f⟩ l4 :=
  k1.bind (γ := Unit) (k2.bind (γ := Unit) (k3.bind (γ := Unit) (k4.map fun ss => (⟨cs, ms, rs, ss, v, s, b, f⟩ : PProg))))

theorem numR_lt {en en' : Bool} {k n : Nat} {l l' : List UInt8} (h : Step en (numR k l) en' n l') (he : en' = false) : n < 256 ^ k := by
  subst he
  exact (numR_spec h.ok.2).2.2.2
end Go.Proofs.YtaijdpckkobofaaDoor
