/- code.Encode's writer over lists of bytes: what each call lays behind what is there. -/
import Derived.Test.YtaijdpckkobofaaDoorNum
import Derived.Laws.IdiomCopy
import Derived.Test.YtaijdpckkobofaaDoorDec9
namespace Go.Proofs.YtaijdpckkobofaaDoor
open Go.RowKit
set_option linter.unusedVariables false

theorem buf0_u8 : (Tryd.prog.info? 5).map (·.size) = some 1 := by kernel_rfl
set_option maxRecDepth 100000 in
set_option maxHeartbeats 2000000 in
theorem bWrite0 (B b c : Nat) (sa : Option Addr) (bs : List Value) (w : World) (h : IsBuf B b bs w) :
    Calls Tryd.prog 60 #[.pointer (some ⟨b, 0, none⟩), .slice sa 0 c] w fun e w' => e = .returned (.tuple #[.int .i64 0, .nilIface]) ∧ IsBuf B b bs w' ∧ Wr B b w w' := by
  unfold IsBuf at h ⊢
  obtain ⟨hB, v0, lr, hbk, -, -⟩ := id h
  have c2 : w.cell? ⟨b, 2, none⟩ = some (.int .i8 lr) := hbk.c2
  have f2 : w.frozen? ⟨b, 2, none⟩ = false := hbk.f 2
  have h' := h.setLast 0
  have hbel0 : Below B w (w.setCell ⟨b, 2, none⟩ (.int .i8 0)) := (Below.refl B w).setCell (p := ⟨b, 2, none⟩) hB _
  have hk0 : Lib.OthersKept 5 (some b) w (w.setCell ⟨b, 2, none⟩ (.int .i8 0)) := (Lib.OthersKept.refl _ _ w).setCell ⟨b, 2, none⟩ rfl _
  clear hbk v0 h
  have hce : ∀ d dLen dCap W, (Builtin.copy_ #[35, 35] 3 #[.slice d dLen dCap, .slice sa 0 c]).run Tryd.prog W = .ok (goInt 0) W := fun d dLen dCap W => run_copy_none W 35 35 3 5 d sa dLen dCap 0 c Tryd.underlying35 buf0_u8 (by simp)
  have hT : ∀ W, LibA.IsBuffer 123 (fun _ => none) 5 B b 0 bs W → Calls Tryd.prog 104 #[.pointer (some ⟨b, 0, none⟩), .int .i64 0] W _ := fun W hW => Tryd.Buffer_tryGrow_at 123 (fun _ => none) B b 0 0 bs W hW
  go_enter Tryd.func60, Tryd.ntmps60
  go_wp2_with (first | (go_at_call 104; refine (hT _ (by exact h')).mono ?_))
  rintro e W1 (⟨rfl, hI, hbel, hk, hg⟩ | ⟨rfl, rfl, hnr⟩)
  · clear h' c2 f2 hT
    obtain ⟨-, lr2, hc⟩ := hI.cases
    rcases hc with ⟨hb0, hbk2⟩ | ⟨g, cap, cur, hbk2, -, -, hnc, hcm, -, -, -⟩
    · subst hb0
      have d0 : W1.cell? ⟨b, 0, none⟩ = some (.slice none 0 0) := hbk2.c0
      go_wp2
      all_goals (go_ret2; exact ⟨rfl, hI, ⟨hbel0.trans hbel, hk0.trans hk⟩⟩)
    · have d0 : W1.cell? ⟨b, 0, none⟩ = some (.slice (some ⟨g, 0, none⟩) bs.length cap) := hbk2.c0
      unfold maxLen at hcm
      go_wp2
      all_goals (go_ret2; exact ⟨rfl, hI, ⟨hbel0.trans hbel, hk0.trans hk⟩⟩)
  · obtain ⟨_, _, _, _, hlt⟩ := hnr
    omega

theorem u64_wrap (x : Int) : IntKind.u64.wrap x = (u64 x : Int) := by
  unfold u64
  simp only [IntKind.wrap, IntKind.signed, IntKind.bits]; simp; omega
theorem beB_cells (n k : Nat) (hn : n < 18446744073709551616) (hk : k = 1 ∨ k = 2 ∨ k = 4) : (beVals (n : Int)).drop (8 - k) = Lib.byteCells (beB k n) := by
  rcases hk with rfl | rfl | rfl <;>
  · simp [beVals, beB, Lib.byteCells]
    try omega
theorem numVals_cells (x : Int) (k : Nat) (hk : k = 1 ∨ k = 2 ∨ k = 4) : numVals k x = Lib.byteCells (numW k x) := by
  unfold numVals numW
  rw [u64_wrap]
  exact beB_cells _ k (by unfold u64; omega) hk
theorem numsVals_cells (xs : List Int) (k : Nat) (hk : k = 1 ∨ k = 2 ∨ k = 4) : xs.flatMap (numVals k) = Lib.byteCells (xs.flatMap (numW k)) := by
  induction xs with
  | nil => rfl
  | cons x xs ih => rw [List.flatMap_cons, List.flatMap_cons, ih, numVals_cells x k hk]; simp [Lib.byteCells]
theorem cells_app (a b : List UInt8) : Lib.byteCells a ++ Lib.byteCells b = Lib.byteCells (a ++ b) := by simp [Lib.byteCells]
theorem beB_len : ∀ k n, (beB k n).length = k
  | 0, _ => rfl
  | k + 1, n => by simp [beB, beB_len k n]
theorem numW_len (k : Nat) (x : Int) : (numW k x).length = k := beB_len _ _
theorem numsW_len (xs : List Int) (k : Nat) : (xs.flatMap (numW k)).length = xs.length * k := by
  induction xs with
  | nil => simp
  | cons x xs ih => simp only [List.flatMap_cons, List.length_append, numW_len, ih, List.length_cons, Nat.succ_mul]; omega

/-- the writer holds these bytes; nothing else has changed since w1 -/
structure EncS (b : Nat) (w1 : World) (l : List UInt8) (w : World) : Prop where
  buf : IsBuf w1.heap.size b (Lib.byteCells l) w
  wr : Wr w1.heap.size b w1 w
theorem EncS.size {b : Nat} {w1 w : World} {l : List UInt8} (h : EncS b w1 l w) : w1.heap.size ≤ w.heap.size := h.wr.size
theorem EncS.below {b : Nat} {w1 w : World} {l : List UInt8} (h : EncS b w1 l w) : Below w1.heap.size w1 w := h.wr.below
theorem EncS.lt {b : Nat} {w1 w : World} {l : List UInt8} (h : EncS b w1 l w) : b < w.heap.size := h.buf.lt
theorem EncS.le {b : Nat} {w1 w : World} {l : List UInt8} (h : EncS b w1 l w) : w1.heap.size ≤ b := h.buf.le
theorem EncS.alloc {b : Nat} {w1 w : World} {l : List UInt8} (h : EncS b w1 l w) (o : Obj) : EncS b w1 l (w.alloc o) := ⟨h.buf.alloc o, h.wr.alloc h.size o⟩
theorem EncS.drewN {b : Nat} {w1 w : World} {l : List UInt8} (h : EncS b w1 l w) (n : Nat) : EncS b w1 l (w.drewN n) := ⟨h.buf.drewN n, h.wr.drewN n⟩
theorem EncS.new (w : World) : EncS w.heap.size w [] (w.alloc (.cells #[.slice none 0 0, .int .i64 0, .int .i8 0] 123)) :=
  ⟨fresh_buf w, (Wr.refl _ _ _).alloc (Nat.le_refl _) _⟩
theorem EncS.cast {b : Nat} {w1 w : World} {l l' : List UInt8} (h : EncS b w1 l w) (e : l = l') : EncS b w1 l' w := e ▸ h

theorem eStr {b : Nat} {w1 w : World} {l : List UInt8} (h : EncS b w1 l w) (s : ByteArray) (ls : List UInt8) (n : Int) (hls : s.data.toList = ls) (hn : (ls.length : Int) = n) (hlim : l.length + ls.length ≤ 100000000) :
    Calls Tryd.prog 57 #[.pointer (some ⟨b, 0, none⟩), .string s] w fun e w' => e = .returned (.tuple #[.int .i64 n, .nilIface]) ∧ EncS b w1 (l ++ ls) w' ∧ Wr w1.heap.size b w w' := by
  subst hls hn
  have hsz : s.size = s.data.toList.length := by rw [Array.length_toList]; rfl
  refine (bWriteString _ b _ s w h.buf h.size (bytesOk.cells l) (by rw [bcells_len, hsz]; omega)).mono ?_
  rintro e w2 ⟨rfl, hb, hw⟩
  exact ⟨by rw [hsz], ⟨by rw [← cells_app]; exact hb, h.wr.trans hw⟩, hw⟩
theorem eByte {b : Nat} {w1 w : World} {l : List UInt8} (h : EncS b w1 l w) (x : Nat) (hx : x ≤ 255) (hlim : l.length + 1 ≤ 100000000) :
    Calls Tryd.prog 59 #[.pointer (some ⟨b, 0, none⟩), .int .u8 (x : Int)] w fun e w' => e = .returned .nilIface ∧ EncS b w1 (l ++ [UInt8.ofNat x]) w' ∧ Wr w1.heap.size b w w' := by
  refine (bWriteByte _ b _ (x : Int) w h.buf h.size (bytesOk.cells l) (by rw [bcells_len]; omega)).mono ?_
  rintro e w2 ⟨rfl, hb, hw⟩
  refine ⟨rfl, ⟨?_, h.wr.trans hw⟩, hw⟩
  have hc : Lib.byteCells (l ++ [UInt8.ofNat x]) = Lib.byteCells l ++ [.int .u8 (x : Int)] := by
    have : (UInt8.ofNat x).toNat = x := by rw [UInt8.toNat_ofNat']; omega
    rw [← cells_app]; simp [Lib.byteCells, this]
  rw [hc]; exact hb
theorem eBytes {b : Nat} {w1 w : World} {l : List UInt8} (h : EncS b w1 l w) (a : Option Addr) (n c : Nat) (nI : Int) (ls : List UInt8) (hA : BsA w1 a ls) (hn : ls.length = n) (hnI : (n : Int) = nI) (hlim : l.length + n ≤ 100000000) :
    Calls Tryd.prog 60 #[.pointer (some ⟨b, 0, none⟩), .slice a n c] w fun e w' => e = .returned (.tuple #[.int .i64 nI, .nilIface]) ∧ EncS b w1 (l ++ ls) w' ∧ Wr w1.heap.size b w w' := by
  subst hn hnI
  by_cases h0 : ls = []
  · subst h0
    refine (bWrite0 _ b c a _ w h.buf).mono ?_
    rintro e w2 ⟨rfl, hb, hw⟩
    exact ⟨rfl, ⟨by rw [List.append_nil]; exact hb, h.wr.trans hw⟩, hw⟩
  · obtain ⟨x, hx⟩ : ∃ x, ls[0]? = some x := ⟨_, List.getElem?_eq_getElem (List.length_pos_iff.2 h0)⟩
    obtain ⟨g, o, rfl, hg, _⟩ := hA 0 x hx
    have hlt := h.le
    refine (bWrite _ b _ (Lib.byteCells ls) ⟨g, o, none⟩ ls.length c w h.buf h.size (bytesOk.cells l) (bcells_len ls) (by show g ≠ b; omega) ?_ (bytesOk.cells ls) (by rw [bcells_len]; omega)).mono ?_
    · intro j v hj
      obtain ⟨y, hy, rfl⟩ : ∃ y, ls[j]? = some y ∧ Value.int .u8 (y.toNat : Int) = v := by simpa [Lib.byteCells] using hj
      obtain ⟨g', o', e', _, hc⟩ := hA j y hy
      cases e'
      rw [add_plain]
      exact (h.below.cell (p := ⟨g, _, none⟩) hg).trans hc
    · rintro e w2 ⟨rfl, hb, hw⟩
      exact ⟨rfl, ⟨by rw [← cells_app]; exact hb, h.wr.trans hw⟩, hw⟩
theorem eNum {b : Nat} {w1 w : World} {l : List UInt8} (h : EncS b w1 l w) (k : Nat) (kI : Int) (xs : List Int) (vs : Array Value) (n : Nat) (hvs : vs = (xs.map (Value.int .i64)).toArray) (hn : n = xs.length) (hk : k = 1 ∨ k = 2 ∨ k = 4) (hkI : (k : Int) = kI) (hlim : l.length + 8 * n ≤ 100000000)
    (hx : ∀ x ∈ xs, -9223372036854775808 ≤ x ∧ x ≤ 9223372036854775807) (p : Nat) (hp : w.heap.size = p) (w' : World) (hw' : w.alloc (.cells vs 3) = w') :
    Calls Tryd.prog 58 #[.pointer (some ⟨b, 0, none⟩), .int .i64 kI, .slice (some ⟨p, 0, none⟩) n n] w' fun e w' => e = .returned (.tuple #[]) ∧ EncS b w1 (l ++ xs.flatMap (numW k)) w' ∧ Wr w1.heap.size b w w' := by
  subst hkI hp hw'
  refine (number_new _ b k _ xs vs n w hvs hn h.buf h.size (bytesOk.cells l) (by omega) (by omega) (by rw [bcells_len]; omega) hx).mono ?_
  rintro e w2 ⟨rfl, hb, hw⟩
  exact ⟨rfl, ⟨by rw [← cells_app, ← numsVals_cells xs k hk]; exact hb, h.wr.trans hw⟩, hw⟩
theorem eInts {b : Nat} {w1 w : World} {l : List UInt8} (h : EncS b w1 l w) (k : Nat) (kI : Int) (a : Option Addr) (n c : Nat) (xs : List Int) (hA : IntsA w1 a xs) (hn : xs.length = n) (hk : k = 1 ∨ k = 2 ∨ k = 4) (hkI : (k : Int) = kI) (hlim : l.length + 8 * n ≤ 100000000)
    (hx : ∀ x ∈ xs, -9223372036854775808 ≤ x ∧ x ≤ 9223372036854775807) :
    Calls Tryd.prog 58 #[.pointer (some ⟨b, 0, none⟩), .int .i64 kI, .slice a n c] w fun e w' => e = .returned (.tuple #[]) ∧ EncS b w1 (l ++ xs.flatMap (numW k)) w' ∧ Wr w1.heap.size b w w' := by
  subst hkI hn
  refine (number_any _ b k _ xs a c w h.buf h.size (bytesOk.cells l) (by omega) (by omega) (by rw [bcells_len]; omega) hx ?_).mono ?_
  · intro w' hw j x hj
    obtain ⟨g, o, ha, hg, hc⟩ := hA j x hj
    refine ⟨_, ha, ?_⟩
    rw [add_plain]
    have h1 := hc 0 _ rfl
    rw [Nat.mul_one, Nat.add_zero] at h1
    exact (((h.wr.trans hw).below).cell (p := ⟨g, _, none⟩) hg).trans h1
  · rintro e w2 ⟨rfl, hb, hw⟩
    exact ⟨rfl, ⟨by rw [← cells_app, ← numsVals_cells xs k hk]; exact hb, h.wr.trans hw⟩, hw⟩

/-! how long -/
theorem flat_le {α : Type} {f : α → List UInt8} {m : Nat} : ∀ {l : List α}, (∀ x ∈ l, (f x).length ≤ m) → (l.flatMap f).length ≤ l.length * m
  | [], _ => by simp
  | x :: l, h => by
    have h1 := h x (by simp)
    have h2 := flat_le (l := l) fun y hy => h y (by simp [hy])
    simp only [List.flatMap_cons, List.length_append, List.length_cons, Nat.succ_mul]
    omega
theorem insW_len (i : PIns) : (insW i).length = 7 := by simp [insW, numW_len]
theorem msgW_len (m : List UInt8) : (msgW m).length = 2 + m.length := by simp [msgW, numW_len]
theorem stopW_len (s : PStop) : (stopW s).length = 6 + s.name.length := by simp [stopW, numW_len]; omega
theorem stops_le {r : List PStop} (h : ∀ s ∈ r, s.name.length ≤ 16) : (r.flatMap stopW).length ≤ r.length * 22 := flat_le fun s hs => by rw [stopW_len]; have := h s hs; omega
theorem specW_len (s : PSpec) : (specW s).length = 3 + s.routes.length := by unfold specW; simp only [List.length_append, numW_len, numsW_len]; omega
theorem headW_len (p : PProg) : (headW p).length = 22 := by simp [headW, numW_len, magicL]
/-- what a checked program's parts are at most -/
structure Fit (p : PProg) : Prop where
  code : p.code.length ≤ 4000
  msgs : p.msgs.length ≤ 64
  routes : p.routes.length ≤ 64
  sends : p.sends.length ≤ 64
  ops : ∀ x ∈ p.code, x.op ≤ 16 ∧ -2147483648 ≤ x.a ∧ x.a ≤ 2147483647 ∧ 0 ≤ x.b ∧ x.b ≤ 65535
  msg : ∀ x ∈ p.msgs, x.length ≤ 7200
  route : ∀ x ∈ p.routes, x.length ≤ 5 ∧ ∀ s ∈ x, s.name.length ≤ 16 ∧ 0 ≤ s.delay ∧ s.delay ≤ 1000000 ∧ 0 ≤ s.flags ∧ s.flags ≤ 255
  send : ∀ x ∈ p.sends, x.routes.length ≤ 8 ∧ 0 ≤ x.msg ∧ x.msg ≤ 63 ∧ -1 ≤ x.block ∧ x.block ≤ 15 ∧ ∀ k ∈ x.routes, 0 ≤ k ∧ k ≤ 63
  nums : 0 ≤ p.vars ∧ p.vars ≤ 64 ∧ 0 ≤ p.stack ∧ p.stack ≤ 64 ∧ 0 ≤ p.blocks ∧ p.blocks ≤ 16 ∧ 0 ≤ p.fuel ∧ p.fuel ≤ 1000000
theorem insOk_num {x : PIns} (h : insOk x = true) : -2147483648 ≤ x.a ∧ x.a ≤ 2147483647 ∧ 0 ≤ x.b ∧ x.b ≤ 65535 := by
  unfold insOk at h
  split at h
  · simp at h; omega
  · split at h
    · split at h
      · simp [inB] at h; omega
      · simp [inB] at h; omega
    · simp [inB] at h; omega
theorem Fit.of {p : PProg} (h : checkP p = 0) : Fit p := by
  rw [checkP_of] at h
  have h1 : opsOk p = true := by
    cases hx : opsOk p
    · rw [hx] at h; simp at h
    · rfl
  rw [h1] at h
  have h2 : (f1 p && f2 p && f3 p && f4 p) = true := by
    cases hx : (f1 p && f2 p && f3 p && f4 p)
    · rw [hx] at h; simp at h
    · rfl
  rw [h2] at h
  have h3 : limOk p = true := by
    cases hx : limOk p
    · rw [hx] at h; simp at h
    · rfl
  clear h
  simp only [Bool.and_eq_true] at h2
  obtain ⟨⟨⟨g1, g2⟩, g3⟩, g4⟩ := h2
  unfold opsOk at h1
  unfold f1 at g1
  unfold f2 at g2
  unfold f3 at g3
  unfold f4 at g4
  rw [List.all_eq_true] at h1 g1 g2 g3 g4
  simp [limOk, inB] at h3
  refine ⟨by omega, by omega, by omega, by omega, ?_, ?_, ?_, ?_, by omega⟩
  · intro x hx
    have a := h1 x hx
    have b := insOk_num (g1 x hx)
    simp at a
    omega
  · intro x hx
    simpa using g2 x hx
  · intro x hx
    have a := g3 x hx
    simp [routeOk] at a
    refine ⟨by omega, fun s hs => ?_⟩
    have b := a.1 s hs
    simp [stopOk, nameOk, inB] at b
    omega
  · intro x hx
    have a := g4 x hx
    simp [specOk, inB] at a
    obtain ⟨⟨⟨a1, a2⟩, a3⟩, a4⟩ := a
    exact ⟨by omega, by omega, by omega, by omega, by omega, fun k hk => a1 k hk⟩
theorem take_le {α : Type} (l : List α) (k : Nat) : (l.take k).length ≤ l.length := by rw [List.length_take]; omega
theorem code_le {p : PProg} (h : Fit p) (k : Nat) : ((p.code.take k).flatMap insW).length ≤ 28000 := by
  have h1 := flat_le (l := p.code.take k) (f := insW) (m := 7) fun x _ => by rw [insW_len]; omega
  have h2 := take_le p.code k
  have := h.code
  omega
theorem msgs_le {p : PProg} (h : Fit p) (k : Nat) : ((p.msgs.take k).flatMap msgW).length ≤ 500000 := by
  have h1 := flat_le (l := p.msgs.take k) (f := msgW) (m := 7202) fun x hx => by rw [msgW_len]; have := h.msg x (List.mem_of_mem_take hx); omega
  have h2 := take_le p.msgs k
  have := h.msgs
  omega
theorem routes_le {p : PProg} (h : Fit p) (k : Nat) : ((p.routes.take k).flatMap routeW).length ≤ 10000 := by
  have h1 := flat_le (l := p.routes.take k) (f := routeW) (m := 111) fun x hx => by
    obtain ⟨h5, hs⟩ := h.route x (List.mem_of_mem_take hx)
    have h3 := stops_le (r := x) fun s hx => (hs s hx).1
    unfold routeW
    rw [List.length_append, numW_len]
    omega
  have h2 := take_le p.routes k
  have := h.routes
  omega
theorem sends_le {p : PProg} (h : Fit p) (k : Nat) : ((p.sends.take k).flatMap specW).length ≤ 1000 := by
  have h1 := flat_le (l := p.sends.take k) (f := specW) (m := 11) fun x hx => by rw [specW_len]; have := (h.send x (List.mem_of_mem_take hx)).1; omega
  have h2 := take_le p.sends k
  have := h.sends
  omega
theorem flat_succ {α : Type} {f : α → List UInt8} {l : List α} {k : Nat} {x : α} (h : l[k]? = some x) : (l.take (k + 1)).flatMap f = (l.take k).flatMap f ++ f x := by
  rw [List.take_add_one, h, List.flatMap_append]; simp
theorem flat_end {α : Type} {f : α → List UInt8} {l : List α} {k : Nat} (h : l.length ≤ k) : (l.take k).flatMap f = l.flatMap f := by rw [List.take_of_length_le h]
end Go.Proofs.YtaijdpckkobofaaDoor
