/- A program that is being made: one part more. -/
import Derived.Test.YtaijdpckkobofaaDoorBMem
namespace Go.Proofs.YtaijdpckkobofaaDoor
open Go.RowKit
set_option linter.unusedVariables false

theorem row_grown {w w1 : World} {B B' : Nat} {e e' : TypeId} {size size' : Nat} {v v' : Value} {n n' : Nat} {xs xs' : List Value} (h : w.ownsRow B e size v n xs) (h' : w.ownsRow B' e' size' v' n' xs') (hne : e ≠ e') (hg : w.grownBy w1 v'.ownBlock) : w1.ownsRow B e size v n xs := by
  refine mown_block h fun g hgb => ?_
  obtain ⟨cs, fz, hh⟩ := Lib.ownsRow_kind h g hgb
  refine hg.block g (Array.getElem?_eq_some_iff.1 hh).1 ?_
  intro he
  obtain ⟨cs', fz', hh'⟩ := Lib.ownsRow_kind h' g he.symm
  rw [hh] at hh'
  injection hh' with hh'
  injection hh' with _ hh' _
  exact hne hh'
theorem block_grown {w w1 : World} {P : Nat} {cs : Array Value} {t : TypeId} {fz : Nat × Nat} (h : w.heap[P]? = some (.cells cs t fz)) {B' : Nat} {e' : TypeId} {size' : Nat} {v' : Value} {n' : Nat} {xs' : List Value} (h' : w.ownsRow B' e' size' v' n' xs') (hne : t ≠ e') (hg : w.grownBy w1 v'.ownBlock) : w1.heap[P]? = some (.cells cs t fz) := by
  refine (hg.block P (Array.getElem?_eq_some_iff.1 h).1 ?_).trans h
  intro he
  obtain ⟨cs', fz', hh'⟩ := Lib.ownsRow_kind h' P he.symm
  rw [h] at hh'
  injection hh' with hh'
  injection hh' with _ hh' _
  exact hne hh'

/-- there is a program at block b, all of it in blocks of F -/
def Bd (F : Nat → Prop) (T : TypeId) (b : Nat) (w : World) (p : PProg) : Prop := ∃ vc vm vr vs ms rs ss, BAt F T b w p vc vm vr vs ms rs ss
/-- the program has become p'; only its own blocks have changed -/
def Adv (F : Nat → Prop) (T : TypeId) (b : Nat) (w : World) (p' : PProg) (w' : World) : Prop := ∃ F', Bd F' T b w' p' ∧ Chg F w w' ∧ ∀ i, F' i → F i ∨ w.heap.size ≤ i
theorem Bd.keep {F G : Nat → Prop} {T : TypeId} {b : Nat} {w w' : World} {p : PProg} (h : Bd F T b w p) (k : Chg G w w') (hd : ∀ i, F i → ¬ G i) : Bd F T b w' p := by
  obtain ⟨_, _, _, _, _, _, _, h⟩ := h
  exact ⟨_, _, _, _, _, _, _, h.keep k hd⟩
theorem Bd.of_below {F : Nat → Prop} {T : TypeId} {b : Nat} {w w' : World} {p : PProg} (h : Bd F T b w p) (k : Below w.heap.size w w') : Bd F T b w' p := h.keep (G := fun _ => False) (Chg.of_below k) fun _ _ => id
theorem Bd.lt {F : Nat → Prop} {T : TypeId} {b : Nat} {w : World} {p : PProg} (h : Bd F T b w p) : ∀ i, F i → i < w.heap.size := by
  obtain ⟨_, _, _, _, _, _, _, h⟩ := h
  exact h.lt
theorem Adv.same {F : Nat → Prop} {T : TypeId} {b : Nat} {w w' : World} {p : PProg} (h : Bd F T b w p) (k : Below w.heap.size w w') : Adv F T b w p w' := ⟨F, h.of_below k, Chg.of_below k, fun _ => Or.inl⟩
theorem Adv.first {F : Nat → Prop} {T : TypeId} {b : Nat} {w0 w w' : World} {p : PProg} (h : Adv F T b w p w') (k : Below w0.heap.size w0 w) : Adv F T b w0 p w' := by
  obtain ⟨F', h1, h2, h3⟩ := h
  exact ⟨F', h1, (Chg.of_below k).trans h2 fun _ => Or.inl, fun i hi => by rcases h3 i hi with h4 | h4; exact Or.inl h4; exact Or.inr (Nat.le_trans k.size h4)⟩
theorem Adv.last {F : Nat → Prop} {T : TypeId} {b : Nat} {w w1 w2 : World} {p : PProg} (h : Adv F T b w p w1) (k : Below w1.heap.size w1 w2) : Adv F T b w p w2 := by
  obtain ⟨F', h1, h2, h3⟩ := h
  exact ⟨F', h1.of_below k, h2.trans (Chg.of_below (F := F) k) fun _ => Or.inl, h3⟩
theorem Foot.weak {F G : Nat → Prop} {v : Value} (h : Foot F v) (k : ∀ i, F i → G i) : Foot G v := fun g hg => k g (h g hg)
theorem Foot.app {F : Nat → Prop} {w : World} {v v' : Value} (h : Foot F v) (m : Moved w v v') : ∀ i, v'.ownBlock = some i → F i ∨ w.heap.size ≤ i := by
  intro i hi
  rcases m with m | ⟨g, hg, hl⟩
  · exact Or.inl (h i (m ▸ hi))
  · rw [hg] at hi
    injection hi with hi
    exact Or.inr (hi ▸ hl)

theorem flat_set {l : List PIns} {k : Nat} {x : PIns} {a : Int} (h : l[k]? = some x) : (pinsCells l).set (k * 3 + 1) (.int .i64 a) = pinsCells (l.set k { x with a := a }) := by
  induction l generalizing k with
  | nil => simp at h
  | cons y l ih =>
    cases k with
    | zero =>
      obtain rfl : y = x := by simpa using h
      simp [pinsCells, PIns.cells]
    | succ k =>
      have := ih (k := k) (by simpa using h)
      have e : (k + 1) * 3 + 1 = (k * 3 + 1) + 1 + 1 + 1 := by omega
      rw [e]
      simp only [pinsCells, List.flatMap_cons, PIns.cells, List.cons_append, List.nil_append, List.set_cons_succ] at this ⊢
      rw [this]
theorem OwnR.snocN {α : Type} {e : TypeId} {size : Nat} {ln : α → Nat} {cs : α → List Value} {B N : Nat} {w w' : World} {vs : List Value} {ms : List α} {v : Value} {m : α} (h : OwnR e size ln cs B w vs ms) (k : ∀ (v : Value) (m : α), w.ownsRow B e size v (ln m) (cs m) → w'.ownsRow B e size v (ln m) (cs m)) (hv : w'.ownsRow N e size v (ln m) (cs m)) (hB : B ≤ N) (hlt : ∀ u ∈ vs, ∀ g, u.ownBlock = some g → g < N) : OwnR e size ln cs B w' (vs ++ [v]) (ms ++ [m]) := by
  refine ⟨by simp [h.len], fun i u x hu hx => ?_, ?_⟩
  · rcases get_snoc hu with hu | ⟨rfl, rfl⟩
    · rcases get_snoc hx with hx | ⟨rfl, rfl⟩
      · exact k _ _ (h.own i u x hu hx)
      · have := (List.getElem?_eq_some_iff.1 hu).1
        have := h.len
        omega
    · rcases get_snoc hx with hx | ⟨_, rfl⟩
      · have := (List.getElem?_eq_some_iff.1 hx).1
        have := h.len
        omega
      · exact mown_base hB hv
  · refine List.pairwise_append.2 ⟨h.apart, List.pairwise_singleton _ _, fun a ha b hb => ?_⟩
    simp only [List.mem_singleton] at hb
    subst hb
    cases hab : a.ownBlock with
    | none => exact Or.inl rfl
    | some g =>
      right
      intro e
      have h1 := hlt a ha g hab
      have h2 := (hv.lt g e.symm).1
      omega
/-- as Adv; blocks of G may have changed, too -/
def AdvG (F G : Nat → Prop) (T : TypeId) (b : Nat) (w : World) (p' : PProg) (w' : World) : Prop := ∃ F', Bd F' T b w' p' ∧ Chg (fun i => F i ∨ G i) w w' ∧ ∀ i, F' i → F i ∨ w.heap.size ≤ i
theorem AdvG.adv {F G : Nat → Prop} {T : TypeId} {b : Nat} {w w0 w' : World} {p' : PProg} (h : AdvG F G T b w0 p' w') (k : Below w.heap.size w w0) (hG : ∀ i, G i → w.heap.size ≤ i) : Adv F T b w p' w' := by
  obtain ⟨F', h1, h2, h3⟩ := h
  refine ⟨F', h1, (Chg.of_below (F := F) k).trans h2 fun i hi => ?_, fun i hi => ?_⟩
  · rcases hi with hi | hi
    · exact Or.inl hi
    · exact Or.inr (hG i hi)
  · rcases h3 i hi with h4 | h4
    · exact Or.inl h4
    · exact Or.inr (Nat.le_trans k.size h4)
def Tags (T : TypeId) : Prop := T ≠ 33 ∧ T ≠ 35 ∧ T ≠ 5 ∧ T ≠ 36 ∧ T ≠ 64 ∧ T ≠ 39 ∧ T ≠ 3
theorem tags_b : Tags 30 := by unfold Tags; decide
theorem tags_p : Tags 28 := by unfold Tags; decide

section
variable {F : Nat → Prop} {T : TypeId} {b : Nat} {w w1 : World} {p : PProg} {vc vm vr vs : Value} {ms rs ss : List Value}
theorem BAt.blt (h : BAt F T b w p vc vm vr vs ms rs ss) : b < w.heap.size := h.lt b h.inF
theorem OwnR.grown {α : Type} {e : TypeId} {size : Nat} {ln : α → Nat} {cs : α → List Value} {B : Nat} {us : List Value} {xs : List α} {B' : Nat} {e' : TypeId} {size' : Nat} {v' : Value} {n' : Nat} {xs' : List Value} (h : OwnR e size ln cs B w us xs) (h' : w.ownsRow B' e' size' v' n' xs') (hne : e ≠ e') (hg : w.grownBy w1 v'.ownBlock) : OwnR e size ln cs B w1 us xs :=
  h.map fun v m ho => row_grown ho h' hne hg
theorem OwnR.set {α : Type} {e : TypeId} {size : Nat} {ln : α → Nat} {cs : α → List Value} {B : Nat} {us : List Value} {xs : List α} {P : Nat} {cc : Array Value} {t : TypeId} {fz : Nat × Nat} (h : OwnR e size ln cs B w us xs) (hh : w.heap[P]? = some (.cells cc t fz)) (hne : t ≠ e) (o : Nat) (x : Value) : OwnR e size ln cs B (w.setCell ⟨P, o, none⟩ x) us xs :=
  h.map fun v m ho => own_set hh ho hne o x

/-- code behind the code -/
theorem BAt.putCode (hT : Tags T) (h : BAt F T b w p vc vm vr vs ms rs ss) {vc' : Value} {xs : List PIns} {n : Nat} (hg : w.grownBy w1 vc.ownBlock) (hn : p.code.length + xs.length = n) (ho : w1.ownsRow 0 33 3 vc' n (pinsCells p.code ++ pinsCells xs)) (hm : Moved w vc vc') (hops : ∀ x ∈ xs, x.op ≤ 255) :
    Adv F T b w { p with code := p.code ++ xs } (w1.setCell ⟨b, 0, none⟩ vc') := by
  obtain ⟨t1, t2, t3, t4, t5, t6, t7⟩ := hT
  have hh := block_grown h.here h.code t1 hg
  have hF := h.fc.app hm
  have hsz := hg.size
  refine ⟨fun i => F i ∨ vc'.ownBlock = some i, ⟨vc', vm, vr, vs, ms, rs, ss, ?_, h.nums, Or.inl h.inF, ?_, ?_, fun g hg => Or.inr hg, own_set hh (row_grown h.msgs h.code (by decide) hg) t2 _ _, h.fm.weak fun _ => Or.inl, (h.msg.grown h.code (by decide) hg).set hh t3 _ _, fun v hv => (h.fms v hv).weak fun _ => Or.inl,
    own_set hh (row_grown h.routes h.code (by decide) hg) t4 _ _, h.fr.weak fun _ => Or.inl, (h.route.grown h.code (by decide) hg).set hh t5 _ _, fun v hv => (h.frs v hv).weak fun _ => Or.inl, own_set hh (row_grown h.sends h.code (by decide) hg) t6 _ _, h.fs.weak fun _ => Or.inl, (h.send.grown h.code (by decide) hg).set hh t7 _ _, fun v hv => (h.fss v hv).weak fun _ => Or.inl, ?_⟩, ?_, ?_⟩
  · rw [setk_heap hh]; rfl
  · intro k hk
    rw [show (w1.setCell ⟨b, 0, none⟩ vc').heap.size = w1.heap.size by simp [World.setCell]]
    rcases hk with hk | hk
    · have := h.lt k hk; omega
    · exact (ho.lt k hk).2
  · have : (pinsCells (p.code ++ xs)) = pinsCells p.code ++ pinsCells xs := by simp [pinsCells]
    show World.ownsRow _ _ _ _ _ (p.code ++ xs).length _
    rw [this, List.length_append, hn]
    exact own_set hh ho t1 _ _
  · intro x hx
    rcases List.mem_append.1 hx with hx | hx
    · exact h.ops x hx
    · exact hops x hx
  · exact (Chg.of_grown hg h.fc).trans (Chg.of_set (F := F) w1 vc' h.inF) fun _ => Or.inl
  · intro i hi
    rcases hi with hi | hi
    · exact Or.inl hi
    · exact hF i hi
/-- one instruction's A is another -/
theorem BAt.patch (hT : Tags T) (h : BAt F T b w p vc vm vr vs ms rs ss) {k : Nat} {x : PIns} (hx : p.code[k]? = some x) (a : Int) : ∃ g c, vc = .slice (some ⟨g, 0, none⟩) p.code.length c ∧ p.code.length ≤ c ∧ w.cell? ⟨g, k * 3 + 1, none⟩ = some (.int .i64 x.a) ∧ w.frozen? ⟨g, k * 3 + 1, none⟩ = false ∧
    Adv F T b w { p with code := p.code.set k { x with a := a } } (w.setCell ⟨g, k * 3 + 1, none⟩ (.int .i64 a)) := by
  obtain ⟨t1, t2, t3, t4, t5, t6, t7⟩ := hT
  have hk : k < p.code.length := some_lt hx
  rcases h.code.2 with ⟨_, h0⟩ | ⟨g, cap, cur, hv, hg0, hh, hnc, hcm, hcs, htk⟩
  · omega
  have hvb : vc.ownBlock = some g := by rw [hv]; rfl
  have hgF := h.fc g hvb
  have hcell : w.cell? ⟨g, k * 3 + 1, none⟩ = some (.int .i64 x.a) := by
    have := h.code.cells hvb (k * 3 + 1) (.int .i64 x.a) (by
      have := flat_get (f := PIns.cells) (m := 3) (fun _ => rfl) p.code k 1 x hx (by omega)
      rw [pinsCells, this]; rfl)
    rwa [add_plain, Nat.zero_add] at this
  have hbg : b ≠ g := fun e => by
    have h1 := h.here
    rw [e, hh] at h1
    injection h1 with h1
    injection h1 with _ h1 _
    exact t1 h1.symm
  have oth : ∀ {B : Nat} {e : TypeId} {size : Nat} {v : Value} {n : Nat} {xs : List Value}, 33 ≠ e → w.ownsRow B e size v n xs → (w.setCell ⟨g, k * 3 + 1, none⟩ (.int .i64 a)).ownsRow B e size v n xs := fun hne ho => own_set hh ho hne _ _
  refine ⟨g, cap, hv, hnc, hcell, Lib.frozen_of_heap hh _, F, ⟨vc, vm, vr, vs, ms, rs, ss, ?_, h.nums, h.inF, ?_, ?_, h.fc, oth (by decide) h.msgs, h.fm, h.msg.map fun v m ho => oth (by decide) ho, h.fms, oth (by decide) h.routes, h.fr, h.route.map fun v m ho => oth (by decide) ho, h.frs, oth (by decide) h.sends, h.fs, h.send.map fun v m ho => oth (by decide) ho, h.fss, ?_⟩, Chg.of_set w _ hgF, fun _ => Or.inl⟩
  · rw [heap_set_ne hbg]; exact h.here
  · intro i hi
    rw [show (w.setCell ⟨g, k * 3 + 1, none⟩ (.int .i64 a)).heap.size = w.heap.size by simp [World.setCell]]
    exact h.lt i hi
  · show World.ownsRow _ _ _ _ _ (p.code.set k { x with a := a }).length _
    rw [List.length_set]
    refine ⟨by rw [← flat_set hx, List.length_set]; exact h.code.1, Or.inr ⟨g, cap, _, hv, hg0, setk_heap hh _, hnc, hcm, by simpa using hcs, ?_⟩⟩
    rw [Array.toList_setIfInBounds, List.take_set, htk]
    exact flat_set hx
  · intro y hy
    rcases List.mem_or_eq_of_mem_set hy with hy | hy
    · exact h.ops y hy
    · subst hy
      exact h.ops x (List.mem_of_getElem? hx)
/-- a message more -/
theorem BAt.putMsg (hT : Tags T) {G : Nat → Prop} {w0 : World} (h0 : BAt F T b w0 p vc vm vr vs ms rs ss) (k0 : Chg G w0 w) (hdj : ∀ i, F i → ¬ G i) {v v' : Value} {m : List UInt8} (hv : w.ownsRow w0.heap.size 5 1 v m.length (Lib.byteCells m)) {n : Nat} (hg : w.grownBy w1 vm.ownBlock) (hn : p.msgs.length + 1 = n) (ho : w1.ownsRow 0 35 1 v' n (ms ++ [v])) (hm : Moved w vm v') :
    AdvG F G T b w0 { p with msgs := p.msgs ++ [m] } (w1.setCell ⟨b, 1, none⟩ v') := by
  obtain ⟨t1, t2, t3, t4, t5, t6, t7⟩ := hT
  have h := h0.keep k0 hdj
  have hh := block_grown h.here h.msgs t2 hg
  have hv1 := own_set hh (row_grown hv h.msgs (by decide) hg) t3 1 v'
  have hF := h.fm.app hm
  have hsz := hg.size
  have hsz0 := k0.size
  refine ⟨fun i => F i ∨ v'.ownBlock = some i ∨ v.ownBlock = some i, ⟨vc, v', vr, vs, ms ++ [v], rs, ss, ?_, h.nums, Or.inl h.inF, ?_, own_set hh (row_grown h.code h.msgs (by decide) hg) t1 _ _, h.fc.weak fun _ => Or.inl, ?_, fun g hg => Or.inr (Or.inl hg), (OwnR.snocN h.msg (fun u x hx => own_set hh (row_grown hx h.msgs (by decide) hg) t3 _ _) hv1 (Nat.zero_le _) (fun u hu g hug => h0.lt g (h.fms u hu g hug))), ?_, own_set hh (row_grown h.routes h.msgs (by decide) hg) t4 _ _, h.fr.weak fun _ => Or.inl, (h.route.grown h.msgs (by decide) hg).set hh t5 _ _, fun u hu => (h.frs u hu).weak fun _ => Or.inl, own_set hh (row_grown h.sends h.msgs (by decide) hg) t6 _ _, h.fs.weak fun _ => Or.inl, (h.send.grown h.msgs (by decide) hg).set hh t7 _ _, fun u hu => (h.fss u hu).weak fun _ => Or.inl, h.ops⟩, ?_, ?_⟩
  · rw [setk_heap hh]; rfl
  · intro k hk
    rw [show (w1.setCell ⟨b, 1, none⟩ v').heap.size = w1.heap.size by simp [World.setCell]]
    rcases hk with hk | hk | hk
    · have := h.lt k hk; omega
    · exact (ho.lt k hk).2
    · have := (hv.lt k hk).2; omega
  · show World.ownsRow _ _ _ _ _ (p.msgs ++ [m]).length _
    rw [List.length_append, List.length_singleton, hn]
    exact own_set hh ho t2 _ _
  · intro u hu g hug
    rcases List.mem_append.1 hu with hu | hu
    · exact Or.inl (h.fms u hu g hug)
    · simp only [List.mem_singleton] at hu
      subst hu
      exact Or.inr (Or.inr hug)
  · exact ((k0.weak (G := fun i => F i ∨ G i) fun _ => Or.inr).trans (Chg.of_grown hg h.fm) fun _ hi => Or.inl (Or.inl hi)).trans (Chg.of_set (F := F) w1 v' h.inF) fun _ hi => Or.inl (Or.inl hi)
  · intro i hi
    rcases hi with hi | hi | hi
    · exact Or.inl hi
    · rcases hF i hi with h1 | h1
      · exact Or.inl h1
      · exact Or.inr (by omega)
    · exact Or.inr (hv.lt i hi).1
/-- a route more -/
theorem BAt.putRoute (hT : Tags T) {G : Nat → Prop} {w0 : World} (h0 : BAt F T b w0 p vc vm vr vs ms rs ss) (k0 : Chg G w0 w) (hdj : ∀ i, F i → ¬ G i) {v v' : Value} {m : List PStop} (hv : w.ownsRow w0.heap.size 64 3 v m.length (stopsCells m)) {n : Nat} (hg : w.grownBy w1 vr.ownBlock) (hn : p.routes.length + 1 = n) (ho : w1.ownsRow 0 36 1 v' n (rs ++ [v])) (hm : Moved w vr v') :
    AdvG F G T b w0 { p with routes := p.routes ++ [m] } (w1.setCell ⟨b, 2, none⟩ v') := by
  obtain ⟨t1, t2, t3, t4, t5, t6, t7⟩ := hT
  have h := h0.keep k0 hdj
  have hh := block_grown h.here h.routes t4 hg
  have hv1 := own_set hh (row_grown hv h.routes (by decide) hg) t5 2 v'
  have hF := h.fr.app hm
  have hsz := hg.size
  have hsz0 := k0.size
  refine ⟨fun i => F i ∨ v'.ownBlock = some i ∨ v.ownBlock = some i, ⟨vc, vm, v', vs, ms, rs ++ [v], ss, ?_, h.nums, Or.inl h.inF, ?_, own_set hh (row_grown h.code h.routes (by decide) hg) t1 _ _, h.fc.weak fun _ => Or.inl, own_set hh (row_grown h.msgs h.routes (by decide) hg) t2 _ _, h.fm.weak fun _ => Or.inl, (h.msg.grown h.routes (by decide) hg).set hh t3 _ _, fun u hu => (h.fms u hu).weak fun _ => Or.inl, ?_, fun g hg => Or.inr (Or.inl hg), (OwnR.snocN h.route (fun u x hx => own_set hh (row_grown hx h.routes (by decide) hg) t5 _ _) hv1 (Nat.zero_le _) (fun u hu g hug => h0.lt g (h.frs u hu g hug))), ?_, own_set hh (row_grown h.sends h.routes (by decide) hg) t6 _ _, h.fs.weak fun _ => Or.inl, (h.send.grown h.routes (by decide) hg).set hh t7 _ _, fun u hu => (h.fss u hu).weak fun _ => Or.inl, h.ops⟩, ?_, ?_⟩
  · rw [setk_heap hh]; rfl
  · intro k hk
    rw [show (w1.setCell ⟨b, 2, none⟩ v').heap.size = w1.heap.size by simp [World.setCell]]
    rcases hk with hk | hk | hk
    · have := h.lt k hk; omega
    · exact (ho.lt k hk).2
    · have := (hv.lt k hk).2; omega
  · show World.ownsRow _ _ _ _ _ (p.routes ++ [m]).length _
    rw [List.length_append, List.length_singleton, hn]
    exact own_set hh ho t4 _ _
  · intro u hu g hug
    rcases List.mem_append.1 hu with hu | hu
    · exact Or.inl (h.frs u hu g hug)
    · simp only [List.mem_singleton] at hu
      subst hu
      exact Or.inr (Or.inr hug)
  · exact ((k0.weak (G := fun i => F i ∨ G i) fun _ => Or.inr).trans (Chg.of_grown hg h.fr) fun _ hi => Or.inl (Or.inl hi)).trans (Chg.of_set (F := F) w1 v' h.inF) fun _ hi => Or.inl (Or.inl hi)
  · intro i hi
    rcases hi with hi | hi | hi
    · exact Or.inl hi
    · rcases hF i hi with h1 | h1
      · exact Or.inl h1
      · exact Or.inr (by omega)
    · exact Or.inr (hv.lt i hi).1
/-- a send more -/
theorem BAt.putSend (hT : Tags T) {G : Nat → Prop} {w0 : World} (h0 : BAt F T b w0 p vc vm vr vs ms rs ss) (k0 : Chg G w0 w) (hdj : ∀ i, F i → ¬ G i) {v v' : Value} {m : PSpec} (hv : w.ownsRow w0.heap.size 3 1 v m.routes.length (intsCells m.routes)) {n : Nat} (hg : w.grownBy w1 vs.ownBlock) (hn : p.sends.length + 1 = n) (ho : w1.ownsRow 0 39 3 v' n (specCells p.sends ss ++ [.int .i64 m.msg, v, .int .i64 m.block])) (hm : Moved w vs v') :
    AdvG F G T b w0 { p with sends := p.sends ++ [m] } (w1.setCell ⟨b, 3, none⟩ v') := by
  obtain ⟨t1, t2, t3, t4, t5, t6, t7⟩ := hT
  have h := h0.keep k0 hdj
  have hh := block_grown h.here h.sends t6 hg
  have hv1 := own_set hh (row_grown hv h.sends (by decide) hg) t7 3 v'
  have hF := h.fs.app hm
  have hsz := hg.size
  have hsz0 := k0.size
  refine ⟨fun i => F i ∨ v'.ownBlock = some i ∨ v.ownBlock = some i, ⟨vc, vm, vr, v', ms, rs, ss ++ [v], ?_, h.nums, Or.inl h.inF, ?_, own_set hh (row_grown h.code h.sends (by decide) hg) t1 _ _, h.fc.weak fun _ => Or.inl, own_set hh (row_grown h.msgs h.sends (by decide) hg) t2 _ _, h.fm.weak fun _ => Or.inl, (h.msg.grown h.sends (by decide) hg).set hh t3 _ _, fun u hu => (h.fms u hu).weak fun _ => Or.inl, own_set hh (row_grown h.routes h.sends (by decide) hg) t4 _ _, h.fr.weak fun _ => Or.inl, (h.route.grown h.sends (by decide) hg).set hh t5 _ _, fun u hu => (h.frs u hu).weak fun _ => Or.inl, ?_, fun g hg => Or.inr (Or.inl hg), (OwnR.snocN h.send (fun u x hx => own_set hh (row_grown hx h.sends (by decide) hg) t7 _ _) hv1 (Nat.zero_le _) (fun u hu g hug => h0.lt g (h.fss u hu g hug))), ?_, h.ops⟩, ?_, ?_⟩
  · rw [setk_heap hh]; rfl
  · intro k hk
    rw [show (w1.setCell ⟨b, 3, none⟩ v').heap.size = w1.heap.size by simp [World.setCell]]
    rcases hk with hk | hk | hk
    · have := h.lt k hk; omega
    · exact (ho.lt k hk).2
    · have := (hv.lt k hk).2; omega
  · show World.ownsRow _ _ _ _ _ (p.sends ++ [m]).length _
    rw [List.length_append, List.length_singleton, hn]
    have e : specCells (p.sends ++ [m]) (ss ++ [v]) = specCells p.sends ss ++ [.int .i64 m.msg, v, .int .i64 m.block] := specCells_snoc _ _ _ _ h.send.len
    rw [e]
    exact own_set hh ho t6 _ _
  · intro u hu g hug
    rcases List.mem_append.1 hu with hu | hu
    · exact Or.inl (h.fss u hu g hug)
    · simp only [List.mem_singleton] at hu
      subst hu
      exact Or.inr (Or.inr hug)
  · exact ((k0.weak (G := fun i => F i ∨ G i) fun _ => Or.inr).trans (Chg.of_grown hg h.fs) fun _ hi => Or.inl (Or.inl hi)).trans (Chg.of_set (F := F) w1 v' h.inF) fun _ hi => Or.inl (Or.inl hi)
  · intro i hi
    rcases hi with hi | hi | hi
    · exact Or.inl hi
    · rcases hF i hi with h1 | h1
      · exact Or.inl h1
      · exact Or.inr (by omega)
    · exact Or.inr (hv.lt i hi).1
end
end Go.Proofs.YtaijdpckkobofaaDoor
