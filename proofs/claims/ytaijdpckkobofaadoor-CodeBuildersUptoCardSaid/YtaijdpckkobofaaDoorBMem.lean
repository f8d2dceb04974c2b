/- A program that is being made, in memory of its own: which blocks it has, what a call may change; append with what becomes of the row's block. -/
import Derived.Test.YtaijdpckkobofaaDoorRSame4
import Derived.Laws.AppendOwnNone
namespace Go.Proofs.YtaijdpckkobofaaDoor
open Go.RowKit
set_option linter.unusedVariables false

/-- beside new blocks only those of F have changed -/
structure Chg (F : Nat → Prop) (w w' : World) : Prop where
  os : w'.os = w.os
  tape : w'.tape = w.tape
  output : w'.output = w.output
  size : w.heap.size ≤ w'.heap.size
  block : ∀ k, k < w.heap.size → ¬ F k → w'.heap[k]? = w.heap[k]?
theorem Chg.refl (F : Nat → Prop) (w : World) : Chg F w w := ⟨rfl, rfl, rfl, Nat.le_refl _, fun _ _ _ => rfl⟩
theorem Chg.trans {F G : Nat → Prop} {a b c : World} (h : Chg F a b) (k : Chg G b c) (hG : ∀ i, G i → F i ∨ a.heap.size ≤ i) : Chg F a c :=
  ⟨k.os.trans h.os, k.tape.trans h.tape, k.output.trans h.output, Nat.le_trans h.size k.size, fun i hi hn => (k.block i (Nat.lt_of_lt_of_le hi h.size) (fun hg => by rcases hG i hg with h1 | h1; exact hn h1; omega)).trans (h.block i hi hn)⟩
theorem Chg.weak {F G : Nat → Prop} {a b : World} (h : Chg F a b) (hG : ∀ i, F i → G i) : Chg G a b := ⟨h.os, h.tape, h.output, h.size, fun i hi hn => h.block i hi fun hf => hn (hG i hf)⟩
theorem Chg.of_below {F : Nat → Prop} {w w' : World} (h : Below w.heap.size w w') : Chg F w w' := ⟨h.os, h.tape, h.output, h.size, fun i hi _ => h.block i hi⟩
theorem Chg.below {F : Nat → Prop} {B : Nat} {w w' : World} (h : Chg F w w') (hB : ∀ i, F i → B ≤ i) (hw : B ≤ w.heap.size) : Below B w w' := ⟨h.os, h.tape, h.output, h.size, fun i hi => h.block i (by omega) fun hf => by have := hB i hf; omega⟩
theorem Chg.of_grown {F : Nat → Prop} {w w' : World} {r : Option Nat} (h : w.grownBy w' r) (hF : ∀ g, r = some g → F g) : Chg F w w' := ⟨h.os, h.tape, h.output, h.size, fun i hi hn => h.block i hi fun e => hn (hF i e.symm)⟩
theorem Chg.of_set {F : Nat → Prop} (w : World) {b o : Nat} (v : Value) (hb : F b) : Chg F w (w.setCell ⟨b, o, none⟩ v) := ⟨rfl, rfl, rfl, by simp [World.setCell], fun i _ hn => heap_set_ne (fun e : i = b => hn (by rw [e]; exact hb)) o v⟩
theorem Chg.of_drewN {F : Nat → Prop} (w : World) (n : Nat) : Chg F w (w.drewN n) := Chg.of_below (below_drewN (Below.refl _ _) n)
theorem Chg.cell {F : Nat → Prop} {w w' : World} (h : Chg F w w') {g o : Nat} (hg : g < w.heap.size) (hn : ¬ F g) : w'.cell? ⟨g, o, none⟩ = w.cell? ⟨g, o, none⟩ := World.cell?_of_block (h.block g hg hn)

def Foot (F : Nat → Prop) (v : Value) : Prop := ∀ g, v.ownBlock = some g → F g
theorem Foot.none (F : Nat → Prop) (n c : Nat) : Foot F (.slice none n c) := fun g h => by simp [Value.ownBlock] at h
theorem Chg.row {F : Nat → Prop} {w w' : World} {B : Nat} {e : TypeId} {size : Nat} {v : Value} {n : Nat} {xs : List Value} (h : Chg F w w') (ho : w.ownsRow B e size v n xs) (hn : ∀ g, v.ownBlock = some g → ¬ F g) : w'.ownsRow B e size v n xs :=
  mown_block ho fun g hg => h.block g (ho.lt g hg).2 (hn g hg)

/-- the program at block b (of type T): its rows lie in blocks of F -/
structure BAt (F : Nat → Prop) (T : TypeId) (b : Nat) (w : World) (p : PProg) (vc vm vr vs : Value) (ms rs ss : List Value) : Prop where
  here : w.heap[b]? = some (.cells #[vc, vm, vr, vs, .int .i64 0, .int .i64 0, .int .i64 0, .int .i64 0] T (0, 0))
  nums : p.vars = 0 ∧ p.stack = 0 ∧ p.blocks = 0 ∧ p.fuel = 0
  inF : F b
  lt : ∀ k, F k → k < w.heap.size
  code : w.ownsRow 0 33 3 vc p.code.length (pinsCells p.code)
  fc : Foot F vc
  msgs : w.ownsRow 0 35 1 vm p.msgs.length ms
  fm : Foot F vm
  msg : OwnMs 0 w ms p.msgs
  fms : ∀ v ∈ ms, Foot F v
  routes : w.ownsRow 0 36 1 vr p.routes.length rs
  fr : Foot F vr
  route : OwnRs 0 w rs p.routes
  frs : ∀ v ∈ rs, Foot F v
  sends : w.ownsRow 0 39 3 vs p.sends.length (specCells p.sends ss)
  fs : Foot F vs
  send : OwnSs 0 w ss p.sends
  fss : ∀ v ∈ ss, Foot F v
  ops : ∀ x ∈ p.code, x.op ≤ 255

section
variable {F G : Nat → Prop} {T : TypeId} {b : Nat} {w w' : World} {p : PProg} {vc vm vr vs : Value} {ms rs ss : List Value}
theorem OwnR.chg {α : Type} {e : TypeId} {size : Nat} {ln : α → Nat} {cs : α → List Value} {B : Nat} {us : List Value} {xs : List α} (h : OwnR e size ln cs B w us xs) (k : Chg G w w') (hd : ∀ v ∈ us, ∀ g, v.ownBlock = some g → ¬ G g) : OwnR e size ln cs B w' us xs :=
  ⟨h.len, fun i v m hv hm => k.row (h.own i v m hv hm) (hd v (List.mem_of_getElem? hv)), h.apart⟩
/-- what lies elsewhere changes nothing -/
theorem BAt.keep (h : BAt F T b w p vc vm vr vs ms rs ss) (k : Chg G w w') (hd : ∀ i, F i → ¬ G i) : BAt F T b w' p vc vm vr vs ms rs ss :=
  ⟨(k.block b (h.lt b h.inF) (hd b h.inF)).trans h.here, h.nums, h.inF, fun i hi => Nat.lt_of_lt_of_le (h.lt i hi) k.size, k.row h.code fun g hg => hd g (h.fc g hg), h.fc, k.row h.msgs fun g hg => hd g (h.fm g hg), h.fm,
    h.msg.chg k fun v hv g hg => hd g (h.fms v hv g hg), h.fms, k.row h.routes fun g hg => hd g (h.fr g hg), h.fr, h.route.chg k fun v hv g hg => hd g (h.frs v hv g hg), h.frs, k.row h.sends fun g hg => hd g (h.fs g hg), h.fs,
    h.send.chg k fun v hv g hg => hd g (h.fss v hv g hg), h.fss, h.ops⟩
theorem BAt.of_below (h : BAt F T b w p vc vm vr vs ms rs ss) (k : Below w.heap.size w w') : BAt F T b w' p vc vm vr vs ms rs ss := h.keep (G := fun _ => False) (Chg.of_below k) fun _ _ => id
/-- the slices, spelled -/
theorem BAt.sl (h : BAt F T b w p vc vm vr vs ms rs ss) : ∃ ca cc ma mc ra rc sa sc, vc = .slice ca p.code.length cc ∧ vm = .slice ma p.msgs.length mc ∧ vr = .slice ra p.routes.length rc ∧ vs = .slice sa p.sends.length sc := by
  obtain ⟨ca, cc, e1⟩ := own_slice_n h.code
  obtain ⟨ma, mc, e2⟩ := own_slice_n h.msgs
  obtain ⟨ra, rc, e3⟩ := own_slice_n h.routes
  obtain ⟨sa, sc, e4⟩ := own_slice_n h.sends
  exact ⟨ca, cc, ma, mc, ra, rc, sa, sc, e1, e2, e3, e4⟩
end

/-- lists as they lie in rows -/
theorem MsgsA.ofOwn {w : World} {B : Nat} {a : Option Addr} {n c : Nat} {vs : List Value} {l : List (List UInt8)} (ho : w.ownsRow B 35 1 (.slice a n c) n vs) (hm : OwnMs B w vs l) (hn : l.length = n) : MsgsA w a l := by
  intro k x hx
  obtain ⟨v, hv⟩ := get_of_lt (l := vs) (k := k) (by rw [hm.len]; exact some_lt hx)
  have hr := hm.own k v x hv hx
  obtain ⟨a', c', rfl⟩ := own_slice_n hr
  obtain ⟨hA, hc⟩ := BsA.ofOwn hr
  refine ⟨a', c', RowAt.own ho (by rw [← hn]; exact some_lt hx) fun j u hu => ?_, hA, hc⟩
  have hj : j = 0 := by have := some_lt hu; simp at this; omega
  subst hj
  simp at hu
  subst hu
  simpa using hv
theorem StopsA.ofOwn {w : World} {B : Nat} {a : Option Addr} {n c : Nat} {l : List PStop} (ho : w.ownsRow B 64 3 (.slice a n c) n (stopsCells l)) (hn : l.length = n) : StopsA w a l := by
  intro i y hy
  refine RowAt.own ho (by rw [← hn]; exact some_lt hy) fun j u hu => ?_
  have := flat_get (f := PStop.cells) (m := 3) (fun _ => rfl) l i j y hy (by have := some_lt hu; exact this)
  rw [stopsCells, this]; exact hu
theorem IntsA.ofOwn {w : World} {B : Nat} {a : Option Addr} {n c : Nat} {l : List Int} (ho : w.ownsRow B 3 1 (.slice a n c) n (intsCells l)) (hn : l.length = n) : IntsA w a l := by
  intro i y hy
  refine RowAt.own ho (by rw [← hn]; exact some_lt hy) fun j u hu => ?_
  have hj : j = 0 := by have := some_lt hu; simp at this; omega
  subst hj
  simp at hu
  subst hu
  simp [intsCells, hy]
theorem row_len {w : World} {B : Nat} {e : TypeId} {size : Nat} {a : Option Addr} {n c : Nat} {xs : List Value} (h : w.ownsRow B e size (.slice a n c) n xs) : n ≤ c := by
  rcases h.2 with ⟨hn, h0⟩ | ⟨g, cap, cur, hv', _, _, hnc, _⟩
  · omega
  · injection hv' with _ _ e; omega
theorem RoutesA.ofOwn {w : World} {B : Nat} {a : Option Addr} {n c : Nat} {vs : List Value} {l : List (List PStop)} (ho : w.ownsRow B 36 1 (.slice a n c) n vs) (hm : OwnRs B w vs l) (hn : l.length = n) : RoutesA w a l := by
  intro k x hx
  obtain ⟨v, hv⟩ := get_of_lt (l := vs) (k := k) (by rw [hm.len]; exact some_lt hx)
  have hr := hm.own k v x hv hx
  obtain ⟨a', c', rfl⟩ := own_slice_n hr
  refine ⟨a', c', RowAt.own ho (by rw [← hn]; exact some_lt hx) fun j u hu => ?_, StopsA.ofOwn hr rfl, row_len hr⟩
  have hj : j = 0 := by have := some_lt hu; simp at this; omega
  subst hj
  simp at hu
  subst hu
  simpa using hv
theorem SpecsA.ofOwn {w : World} {B : Nat} {a : Option Addr} {n c : Nat} {vs : List Value} {l : List PSpec} (ho : w.ownsRow B 39 3 (.slice a n c) n (specCells l vs)) (hm : OwnSs B w vs l) (hn : l.length = n) : SpecsA w a l := by
  intro k x hx
  obtain ⟨v, hv⟩ := get_of_lt (l := vs) (k := k) (by rw [hm.len]; exact some_lt hx)
  have hr := hm.own k v x hv hx
  obtain ⟨a', c', rfl⟩ := own_slice_n hr
  refine ⟨a', c', RowAt.own ho (by rw [← hn]; exact some_lt hx) fun j u hu => ?_, IntsA.ofOwn hr rfl, row_len hr⟩
  rw [specCells_get l vs k j x _ hx hv (by have := some_lt hu; exact this)]; exact hu
theorem InsA.ofOwn {w : World} {B : Nat} {a : Option Addr} {n c : Nat} {l : List PIns} (ho : w.ownsRow B 33 3 (.slice a n c) n (pinsCells l)) (hn : l.length = n) (hop : ∀ x ∈ l, x.op ≤ 255) : InsA w a l := by
  intro k x hx
  refine ⟨hop x (List.mem_of_getElem? hx), RowAt.own ho (by rw [← hn]; exact some_lt hx) fun j v hv => ?_⟩
  have := flat_get (f := PIns.cells) (m := 3) (fun _ => rfl) l k j x hx (by have := some_lt hv; exact this)
  rw [pinsCells, this]; exact hv

/-! append: the row stays in its block or moves to a new one -/
def Moved (w : World) (v v' : Value) : Prop := v'.ownBlock = v.ownBlock ∨ ∃ g, v'.ownBlock = some g ∧ w.heap.size ≤ g
theorem run_append_mv {P : Program} (w : World) (base : Nat) (t ty e : TypeId) (i : TypeInfo) (z : Value) (size bytes : Nat) (ht : P.underlying t = some (.slice e)) (hi : P.info? e = some i) (hz : i.zero = some z)
    (hsize : i.size = size) (hby : i.bytes = bytes) (hzs : z.cells.size = size) (hsz : 0 < size)
    (v : Value) (n : Nat) (xs : List Value) (hown : w.ownsRow base e size v n xs)
    (a : Addr) (m c : Nat) (news : List Value) (hl : news.length = m * size) (hnews : ∀ j u, news[j]? = some u → w.cell? (a.add j) = some u) (h1 : ∀ u ∈ news, u.oneCell' = true)
    (h63 : n + m ≤ maxLen) (hbytes : (n + m) * bytes ≤ 140737488355328) (hbase : base ≤ w.heap.size) :
    ∃ v' w', (Builtin.append_ #[t, t] ty #[v, .slice (some a) m c]).run P w = .ok v' w' ∧ w'.ownsRow base e size v' (n + m) (xs ++ news) ∧ w.grownBy w' v.ownBlock ∧ Moved w v v' := by
  obtain ⟨v1, w1, hr, h2, h3, _⟩ := run_append_own (P := P) w base t ty e i z size bytes ht hi hz hsize hby hzs hsz v n xs hown a m c news hl hnews h1 h63 hbytes hbase
  refine ⟨v1, w1, hr, h2, h3, ?_⟩
  have same : ∀ (v2 : Value) (w2 : World), (Builtin.append_ #[t, t] ty #[v, .slice (some a) m c]).run P w = .ok v2 w2 → v1 = v2 := fun v2 w2 h => by
    have e1 := hr.symm.trans h
    injection e1
  have hsmall : n + m ≤ 9223372036854775807 := by simp only [maxLen] at h63; omega
  rcases hown.2 with ⟨rfl, rfl⟩ | ⟨g, cap, cur, rfl, hbg, hg, hnc, hcm, hcs, htake⟩
  · obtain ⟨v2, w2, hr2, h4, _, _⟩ := run_append_own (P := P) w w.heap.size t ty e i z size bytes ht hi hz hsize hby hzs hsz (.slice none 0 0) 0 [] (World.ownsRow_nil _ _ _ _) a m c news hl hnews h1 h63 hbytes (Nat.le_refl _)
    obtain rfl := same v2 w2 hr2
    cases hb : v1.ownBlock with
    | none => exact Or.inl hb
    | some g => exact Or.inr ⟨g, hb, (h4.lt g hb).1⟩
  · by_cases hroom : n + m ≤ cap
    · have hfit : n * i.size + news.length ≤ cur.size := by rw [hl, hcs, hsize, ← Nat.add_mul]; exact Nat.mul_le_mul_right _ hroom
      obtain rfl := same _ _ (run_append_room (P := P) w t ty e i ht hi g n cap cur hg a m c news (by rw [hsize]; exact hl) hnews h1 hroom hfit)
      exact Or.inl rfl
    · have holds : ∀ j u, xs[j]? = some u → w.cell? ((⟨g, 0, none⟩ : Addr).add j) = some u := hown.cells (g := g) rfl
      obtain rfl := same _ _ (run_append_grow (P := P) w t ty e i z ht hi hz ⟨g, 0, none⟩ n cap xs (by rw [hsize]; exact hown.1) holds a m c news (by rw [hsize]; exact hl) hnews (by omega) (by omega) (growslice_fits (by omega) (by rw [hby]; exact hbytes)))
      exact Or.inr ⟨w.heap.size, rfl, Nat.le_refl _⟩
theorem wp_append_mv {P : Program} {w : World} {o : Oper} {a : Act} {K : Act → World → Prop} {Q : Exit → Act → World → Prop} (s x : Operand) (t : TypeId)
    (ho : o.op = .call { callee := .builtin .append, args := #[s, x], argTypes := #[t, t] })
    (base : Nat) (e : TypeId) (i : TypeInfo) (z : Value) (size bytes : Nat) (ht : P.underlying t = some (.slice e)) (hi : P.info? e = some i) (hz : i.zero = some z)
    (hsize : i.size = size) (hby : i.bytes = bytes) (hzs : z.cells.size = size) (hsz : 0 < size)
    (v : Value) (n : Nat) (xs : List Value) (hs : a.eval s = v) (hown : w.ownsRow base e size v n xs)
    (ad : Addr) (m c : Nat) (news : List Value) (hx : a.eval x = .slice (some ad) m c) (hl : news.length = m * size) (hnews : ∀ j u, news[j]? = some u → w.cell? (ad.add j) = some u) (h1 : ∀ u ∈ news, u.oneCell' = true)
    (h63 : n + m ≤ maxLen) (hbytes : (n + m) * bytes ≤ 140737488355328) (hbase : base ≤ w.heap.size)
    (h : ∀ v' w', w'.ownsRow base e size v' (n + m) (xs ++ news) → w.grownBy w' v.ownBlock → Moved w v v' → K (a.put o.dst v') w') : o.wp P a w K Q := by
  obtain ⟨v', w', hr, h2, h3, h4⟩ := run_append_mv (P := P) w base t o.type e i z size bytes ht hi hz hsize hby hzs hsz v n xs hown ad m c news hl hnews h1 h63 hbytes hbase
  unfold Oper.wp execOp
  simp only [ho, resolve, invoke, builtin, Sem.run_bind, Sem.run_pure, Result.andThen_ok, List.map_toArray, List.map_cons, List.map_nil, hs, hx, hr]
  exact h v' w' h2 h3 h4
theorem wpList_append_mv {P : Program} {w : World} {ops : Array Oper} {rest : List Oper} {o : Oper} {a : Act} {Q : Exit → Act → World → Prop} (hgd : o.guard = none) (s x : Operand) (t : TypeId)
    (ho : o.op = .call { callee := .builtin .append, args := #[s, x], argTypes := #[t, t] })
    (base : Nat) (e : TypeId) (i : TypeInfo) (z : Value) (size bytes : Nat) (ht : P.underlying t = some (.slice e)) (hi : P.info? e = some i) (hz : i.zero = some z)
    (hsize : i.size = size) (hby : i.bytes = bytes) (hzs : z.cells.size = size) (hsz : 0 < size)
    (v : Value) (n : Nat) (xs : List Value) (hs : a.eval s = v) (hown : w.ownsRow base e size v n xs)
    (ad : Addr) (m c : Nat) (news : List Value) (hx : a.eval x = .slice (some ad) m c) (hl : news.length = m * size) (hnews : ∀ j u, news[j]? = some u → w.cell? (ad.add j) = some u) (h1 : ∀ u ∈ news, u.oneCell' = true)
    (h63 : n + m ≤ maxLen) (hbytes : (n + m) * bytes ≤ 140737488355328) (hbase : base ≤ w.heap.size)
    (h : ∀ v' w', w'.ownsRow base e size v' (n + m) (xs ++ news) → w.grownBy w' v.ownBlock → Moved w v v' → wpList P ops Q rest (a.put o.dst v') w') : wpList P ops Q (o :: rest) a w :=
  wpList_plain hgd fun _ hK => wp_append_mv s x t ho base e i z size bytes ht hi hz hsize hby hzs hsz v n xs hs hown ad m c news hx hl hnews h1 h63 hbytes hbase fun v' w' h2 h3 h4 => hK _ _ (h v' w' h2 h3 h4)
theorem mstep_append_mv {P : Program} {w : World} {ops : Array Oper} {o : Oper} {a : Act} {K : Act → World → Prop} {Q : Exit → Act → World → Prop} {E : Prop} (hg : o.guard = none) (s x : Operand) (t : TypeId)
    (ho : o.op = .call { callee := .builtin .append, args := #[s, x], argTypes := #[t, t] })
    (base : Nat) (e : TypeId) (i : TypeInfo) (z : Value) (size bytes : Nat) (ht : P.underlying t = some (.slice e)) (hi : P.info? e = some i) (hz : i.zero = some z)
    (hsize : i.size = size) (hby : i.bytes = bytes) (hzs : z.cells.size = size) (hsz : 0 < size)
    (v : Value) (n : Nat) (xs : List Value) (hs : a.eval s = v) (hown : w.ownsRow base e size v n xs)
    (ad : Addr) (m c : Nat) (news : List Value) (hx : a.eval x = .slice (some ad) m c) (hl : news.length = m * size) (hnews : ∀ j u, news[j]? = some u → w.cell? (ad.add j) = some u) (h1 : ∀ u ∈ news, u.oneCell' = true)
    (h63 : n + m ≤ maxLen) (hbytes : (n + m) * bytes ≤ 140737488355328) (hbase : base ≤ w.heap.size)
    (h : ∀ v' w', w'.ownsRow base e size v' (n + m) (xs ++ news) → w.grownBy w' v.ownBlock → Moved w v v' → K (a.put o.dst v') w') :
    if Region.wanted o (yielded ops a.tmps) = true then Oper.wp P o a w K Q else E := by
  rw [if_pos (by simp [Region.wanted, hg])]
  exact wp_append_mv s x t ho base e i z size bytes ht hi hz hsize hby hzs hsz v n xs hs hown ad m c news hx hl hnews h1 h63 hbytes hbase h
end Go.Proofs.YtaijdpckkobofaaDoor
