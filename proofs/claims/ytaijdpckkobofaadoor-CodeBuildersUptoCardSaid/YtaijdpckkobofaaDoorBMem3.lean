/- Two programs side by side; append of whatever slice behind a row of one's own. -/
import Derived.Test.YtaijdpckkobofaaDoorBB1
namespace Go.Proofs.YtaijdpckkobofaaDoor
open Go.RowKit
set_option linter.unusedVariables false

/-- a slice that is read: its cells are these -/
def SrcA (w : World) (x : Value) (m size : Nat) (news : List Value) : Prop := ∃ a c, x = .slice a m c ∧ news.length = m * size ∧ (∀ u ∈ news, u.oneCell' = true) ∧ (a = none → m = 0 ∧ c = 0) ∧ ∀ ad, a = some ad → ∀ j u, news[j]? = some u → w.cell? (ad.add j) = some u
theorem SrcA.below {w w' : World} {x : Value} {m size : Nat} {news : List Value} (h : SrcA w x m size news) (k : Below w.heap.size w w') : SrcA w' x m size news := by
  obtain ⟨a, c, h1, h2, h3, h4, h5⟩ := h
  refine ⟨a, c, h1, h2, h3, h4, fun ad had j u hu => ?_⟩
  have hc := h5 ad had j u hu
  exact (k.cell (mcell_lt hc)).trans hc
theorem SrcA.ofOwn {w : World} {B : Nat} {e : TypeId} {size : Nat} {v : Value} {n : Nat} {xs : List Value} (h : w.ownsRow B e size v n xs) (h1 : ∀ u ∈ xs, u.oneCell' = true) : SrcA w v n size xs := by
  rcases h.2 with ⟨rfl, h0⟩ | ⟨g, cap, cur, rfl, _⟩
  · subst h0
    exact ⟨none, 0, rfl, h.1, h1, (fun _ => ⟨rfl, rfl⟩), (fun ad e => by cases e)⟩
  · refine ⟨_, cap, rfl, h.1, h1, (fun e => by cases e), fun ad e => ?_⟩
    cases e
    exact h.cells rfl
theorem SrcA.ins {w : World} {a : Option Addr} {n c : Nat} {l : List PIns} (h : InsA w a l) (hn : l.length = n) (hnil : a = none → c = 0) : SrcA w (.slice a n c) n 3 (pinsCells l) := by
  refine ⟨a, c, rfl, by rw [pinsCells_len, hn], pinsCells_one l, fun e => ⟨?_, hnil e⟩, fun ad e => ?_⟩
  · subst e; rw [h.nil_len] at hn; exact hn.symm
  · subst e; exact h.any
theorem SrcA.stops {w : World} {a : Option Addr} {n c : Nat} {l : List PStop} (h : StopsA w a l) (hn : l.length = n) (hnil : a = none → c = 0) : SrcA w (.slice a n c) n 3 (stopsCells l) := by
  refine ⟨a, c, rfl, by rw [stopsCells_len, hn], stopsCells_one l, fun e => ⟨?_, hnil e⟩, fun ad e => ?_⟩
  · subst e; rw [h.nil_len] at hn; exact hn.symm
  · subst e; exact h.any
theorem SrcA.ints {w : World} {a : Option Addr} {n c : Nat} {l : List Int} (h : IntsA w a l) (hn : l.length = n) (hnil : a = none → c = 0) : SrcA w (.slice a n c) n 1 (intsCells l) := by
  refine ⟨a, c, rfl, by rw [intsCells_len1, hn], intsCells_one l, fun e => ⟨?_, hnil e⟩, fun ad e => ?_⟩
  · subst e; rw [h.nil_len] at hn; exact hn.symm
  · subst e; exact h.any

theorem run_append_any {P : Program} (w : World) (base : Nat) (t ty e : TypeId) (i : TypeInfo) (z : Value) (size bytes : Nat) (ht : P.underlying t = some (.slice e)) (hi : P.info? e = some i) (hz : i.zero = some z)
    (hsize : i.size = size) (hby : i.bytes = bytes) (hzs : z.cells.size = size) (hsz : 0 < size)
    (v : Value) (n : Nat) (xs : List Value) (hown : w.ownsRow base e size v n xs)
    (x : Value) (m : Nat) (news : List Value) (hsrc : SrcA w x m size news)
    (h63 : n + m ≤ maxLen) (hbytes : (n + m) * bytes ≤ 140737488355328) (hbase : base ≤ w.heap.size) :
    ∃ v' w', (Builtin.append_ #[t, t] ty #[v, x]).run P w = .ok v' w' ∧ w'.ownsRow base e size v' (n + m) (xs ++ news) ∧ w.grownBy w' v.ownBlock ∧ Moved w v v' := by
  obtain ⟨a, c, rfl, hl, h1, hnil, hcells⟩ := hsrc
  cases a with
  | none =>
    obtain ⟨rfl, rfl⟩ := hnil rfl
    have hn0 : news = [] := List.eq_nil_of_length_eq_zero (by simpa using hl)
    subst hn0
    exact ⟨v, w, run_append_owned_none (P := P) (w := w) base t ty e i size ht hi v n xs hown, by simpa using hown, grown_refl _ _, Moved.same _ _⟩
  | some ad => exact run_append_mv (P := P) w base t ty e i z size bytes ht hi hz hsize hby hzs hsz v n xs hown ad m c news hl (hcells ad rfl) h1 h63 hbytes hbase
theorem wp_append_any {P : Program} {w : World} {o : Oper} {a : Act} {K : Act → World → Prop} {Q : Exit → Act → World → Prop} (s x : Operand) (t : TypeId)
    (ho : o.op = .call { callee := .builtin .append, args := #[s, x], argTypes := #[t, t] })
    (base : Nat) (e : TypeId) (i : TypeInfo) (z : Value) (size bytes : Nat) (ht : P.underlying t = some (.slice e)) (hi : P.info? e = some i) (hz : i.zero = some z)
    (hsize : i.size = size) (hby : i.bytes = bytes) (hzs : z.cells.size = size) (hsz : 0 < size)
    (v : Value) (n : Nat) (xs : List Value) (hs : a.eval s = v) (hown : w.ownsRow base e size v n xs)
    (xv : Value) (m : Nat) (news : List Value) (hx : a.eval x = xv) (hsrc : SrcA w xv m size news)
    (h63 : n + m ≤ maxLen) (hbytes : (n + m) * bytes ≤ 140737488355328) (hbase : base ≤ w.heap.size)
    (h : ∀ v' w', w'.ownsRow base e size v' (n + m) (xs ++ news) → w.grownBy w' v.ownBlock → Moved w v v' → K (a.put o.dst v') w') : o.wp P a w K Q := by
  obtain ⟨v', w', hr, h2, h3, h4⟩ := run_append_any (P := P) w base t o.type e i z size bytes ht hi hz hsize hby hzs hsz v n xs hown xv m news hsrc h63 hbytes hbase
  unfold Oper.wp execOp
  simp only [ho, resolve, invoke, builtin, Sem.run_bind, Sem.run_pure, Result.andThen_ok, List.map_toArray, List.map_cons, List.map_nil, hs, hx, hr]
  exact h v' w' h2 h3 h4
theorem wpList_append_any {P : Program} {w : World} {ops : Array Oper} {rest : List Oper} {o : Oper} {a : Act} {Q : Exit → Act → World → Prop} (hgd : o.guard = none) (s x : Operand) (t : TypeId)
    (ho : o.op = .call { callee := .builtin .append, args := #[s, x], argTypes := #[t, t] })
    (base : Nat) (e : TypeId) (i : TypeInfo) (z : Value) (size bytes : Nat) (ht : P.underlying t = some (.slice e)) (hi : P.info? e = some i) (hz : i.zero = some z)
    (hsize : i.size = size) (hby : i.bytes = bytes) (hzs : z.cells.size = size) (hsz : 0 < size)
    (v : Value) (n : Nat) (xs : List Value) (hs : a.eval s = v) (hown : w.ownsRow base e size v n xs)
    (xv : Value) (m : Nat) (news : List Value) (hx : a.eval x = xv) (hsrc : SrcA w xv m size news)
    (h63 : n + m ≤ maxLen) (hbytes : (n + m) * bytes ≤ 140737488355328) (hbase : base ≤ w.heap.size)
    (h : ∀ v' w', w'.ownsRow base e size v' (n + m) (xs ++ news) → w.grownBy w' v.ownBlock → Moved w v v' → wpList P ops Q rest (a.put o.dst v') w') : wpList P ops Q (o :: rest) a w :=
  wpList_plain hgd fun _ hK => wp_append_any s x t ho base e i z size bytes ht hi hz hsize hby hzs hsz v n xs hs hown xv m news hx hsrc h63 hbytes hbase fun v' w' h2 h3 h4 => hK _ _ (h v' w' h2 h3 h4)
theorem mstep_append_any {P : Program} {w : World} {ops : Array Oper} {o : Oper} {a : Act} {K : Act → World → Prop} {Q : Exit → Act → World → Prop} {E : Prop} (hg : o.guard = none) (s x : Operand) (t : TypeId)
    (ho : o.op = .call { callee := .builtin .append, args := #[s, x], argTypes := #[t, t] })
    (base : Nat) (e : TypeId) (i : TypeInfo) (z : Value) (size bytes : Nat) (ht : P.underlying t = some (.slice e)) (hi : P.info? e = some i) (hz : i.zero = some z)
    (hsize : i.size = size) (hby : i.bytes = bytes) (hzs : z.cells.size = size) (hsz : 0 < size)
    (v : Value) (n : Nat) (xs : List Value) (hs : a.eval s = v) (hown : w.ownsRow base e size v n xs)
    (xv : Value) (m : Nat) (news : List Value) (hx : a.eval x = xv) (hsrc : SrcA w xv m size news)
    (h63 : n + m ≤ maxLen) (hbytes : (n + m) * bytes ≤ 140737488355328) (hbase : base ≤ w.heap.size)
    (h : ∀ v' w', w'.ownsRow base e size v' (n + m) (xs ++ news) → w.grownBy w' v.ownBlock → Moved w v v' → K (a.put o.dst v') w') :
    if Region.wanted o (yielded ops a.tmps) = true then Oper.wp P o a w K Q else E := by
  rw [if_pos (by simp [Region.wanted, hg])]
  exact wp_append_any s x t ho base e i z size bytes ht hi hz hsize hby hzs hsz v n xs hs hown xv m news hx hsrc h63 hbytes hbase h

section
variable {F : Nat → Prop} {T : TypeId} {b : Nat} {w : World} {p : PProg} {vc vm vr vs : Value} {ms rs ss : List Value}
/-- the code is another, laid anew -/
theorem BAt.setCode (hT : Tags T) {G : Nat → Prop} {w0 : World} (h0 : BAt F T b w0 p vc vm vr vs ms rs ss) (k0 : Chg G w0 w) (hdj : ∀ i, F i → ¬ G i) {vc' : Value} {xs : List PIns} {n : Nat} (hn : xs.length = n) (ho : w.ownsRow w0.heap.size 33 3 vc' n (pinsCells xs)) (hops : ∀ x ∈ xs, x.op ≤ 255) :
    AdvG F G T b w0 { p with code := xs } (w.setCell ⟨b, 0, none⟩ vc') := by
  obtain ⟨t1, t2, t3, t4, t5, t6, t7⟩ := hT
  have h := h0.keep k0 hdj
  have hh := h.here
  refine ⟨fun i => F i ∨ vc'.ownBlock = some i, ⟨vc', vm, vr, vs, ms, rs, ss, ?_, h.nums, Or.inl h.inF, ?_, ?_, fun g hg => Or.inr hg, own_set hh h.msgs t2 _ _, h.fm.weak fun _ => Or.inl, h.msg.set hh t3 _ _, fun v hv => (h.fms v hv).weak fun _ => Or.inl,
    own_set hh h.routes t4 _ _, h.fr.weak fun _ => Or.inl, h.route.set hh t5 _ _, fun v hv => (h.frs v hv).weak fun _ => Or.inl, own_set hh h.sends t6 _ _, h.fs.weak fun _ => Or.inl, h.send.set hh t7 _ _, fun v hv => (h.fss v hv).weak fun _ => Or.inl, hops⟩, ?_, ?_⟩
  · rw [setk_heap hh]; rfl
  · intro k hk
    rw [show (w.setCell ⟨b, 0, none⟩ vc').heap.size = w.heap.size by simp [World.setCell]]
    rcases hk with hk | hk
    · exact h.lt k hk
    · exact (ho.lt k hk).2
  · show World.ownsRow _ _ _ _ _ xs.length _
    rw [hn]
    exact own_set hh (mown_base (Nat.zero_le _) ho) t1 _ _
  · exact (k0.weak (G := fun i => F i ∨ G i) fun _ => Or.inr).trans (Chg.of_set (F := F) w vc' h.inF) fun _ hi => Or.inl (Or.inl hi)
  · intro i hi
    rcases hi with hi | hi
    · exact Or.inl hi
    · exact Or.inr (ho.lt i hi).1
end

theorem own_nil {w : World} {B : Nat} {e : TypeId} {size : Nat} {a : Option Addr} {n c : Nat} {xs : List Value} (h : w.ownsRow B e size (.slice a n c) n xs) : a = none → c = 0 := by
  intro e0
  subst e0
  rcases h.2 with ⟨hv, _⟩ | ⟨g, cap, cur, hv, _⟩
  · injection hv
  · injection hv with h1; cases h1
/-- the builder at b holds p, the law's program at q holds p', nothing of theirs lies below B -/
structure St2 (B b q : Nat) (w : World) (p p' : PProg) (F G : Nat → Prop) : Prop where
  hb : Bd F 30 b w p
  hq : Bd G 28 q w p'
  dj : ∀ i, F i → ¬ G i
  fB : ∀ i, F i → B ≤ i
  gB : ∀ i, G i → B ≤ i
section
variable {B b q : Nat} {w w' : World} {p p' p1 : PProg} {F G : Nat → Prop}
theorem St2.below (h : St2 B b q w p p' F G) (k : Below w.heap.size w w') : St2 B b q w' p p' F G := ⟨h.hb.of_below k, h.hq.of_below k, h.dj, h.fB, h.gB⟩
theorem St2.advB (h : St2 B b q w p p' F G) (hB : B ≤ w.heap.size) (k : Adv F 30 b w p1 w') : (∃ F', St2 B b q w' p1 p' F' G ∧ ∀ i, F' i → F i ∨ w.heap.size ≤ i) ∧ Below B w w' := by
  obtain ⟨F', h1, h2, h3⟩ := k
  refine ⟨⟨F', ⟨h1, h.hq.keep h2 fun i hg hf => h.dj i hf hg, fun i hi hg => ?_, fun i hi => ?_, h.gB⟩, h3⟩, h2.below h.fB hB⟩
  · rcases h3 i hi with h4 | h4
    · exact h.dj i h4 hg
    · have := h.hq.lt i hg; omega
  · rcases h3 i hi with h4 | h4
    · exact h.fB i h4
    · omega
theorem St2.advQ (h : St2 B b q w p p' F G) (hB : B ≤ w.heap.size) (k : Adv G 28 q w p1 w') : (∃ G', St2 B b q w' p p1 F G' ∧ ∀ i, G' i → G i ∨ w.heap.size ≤ i) ∧ Below B w w' := by
  obtain ⟨G', h1, h2, h3⟩ := k
  refine ⟨⟨G', ⟨h.hb.keep h2 fun i hf hg => h.dj i hf hg, h1, fun i hi hg => ?_, h.fB, fun i hi => ?_⟩, h3⟩, h2.below h.gB hB⟩
  · rcases h3 i hg with h4 | h4
    · exact h.dj i hi h4
    · have := h.hb.lt i hi; omega
  · rcases h3 i hi with h4 | h4
    · exact h.gB i h4
    · omega
/-- what is written elsewhere, from B on -/
theorem St2.other {E : Nat → Prop} (h : St2 B b q w p p' F G) (hB : B ≤ w.heap.size) (k : Chg E w w') (h1 : ∀ i, E i → ¬ F i ∧ ¬ G i) (h2 : ∀ i, E i → B ≤ i) : St2 B b q w' p p' F G ∧ Below B w w' :=
  ⟨⟨h.hb.keep k fun i hf he => (h1 i he).1 hf, h.hq.keep k fun i hg he => (h1 i he).2 hg, h.dj, h.fB, h.gB⟩, k.below h2 hB⟩
end
end Go.Proofs.YtaijdpckkobofaaDoor
