/- lex: wrong and put. -/
import Derived.Test.YtaijdpckkobofaaDoorLex3
import Derived.Lib.OwnKind
import Derived.Deep.RegionWith
import Derived.Deep.RegionHeld3
import Derived.Deep.RegionLaw
import Derived.Deep.DeepCutAuto
namespace Go.Proofs.YtaijdpckkobofaaDoor
open Go.RowKit
set_option linter.unusedVariables false

abbrev faultV (e a : Int) : Value := .agg #[.int .i64 e, .int .i64 a]

theorem wrong_any (a : Int) (w : World) : Calls Tryd.prog 78 #[.int .i64 a] w fun e w' => e = .returned (faultV 9 a) ∧ Below w.heap.size w w' := by
  go_enter Tryd.func78, Tryd.ntmps78
  go_wp2_with fail
  refine bodyPost_ret (v := faultV 9 a) (by simp [faultV, results, Tryd.results78, go_sem]) rfl ⟨rfl, ?_⟩
  exact (Below.refl _ _).alloc (Nat.le_refl _) _
theorem info_tok : (Tryd.prog.info? 75).map (fun i => (i.zero, i.size, i.bytes)) = some (some (.agg #[.int .i64 0, .string ⟨#[]⟩, .int .i64 0, .int .i64 0]), 4, 40) := by kernel_rfl

theorem cells_new (w : World) (l : List Value) (t : TypeId) : ∀ j u, l[j]? = some u → (w.alloc (.cells l.toArray t)).cell? ((⟨w.heap.size, 0, none⟩ : Addr).add j) = some u := by
  intro j u hj
  have := cell_new w l.toArray t 0 0 j
  rw [Nat.zero_add] at this
  refine Eq.trans this ?_
  simpa using hj
theorem Tok.one (t : Tok) : ∀ u ∈ t.cells, u.oneCell' = true := by
  intro u hu
  simp [Tok.cells] at hu
  rcases hu with rfl | rfl | rfl | rfl <;> rfl

theorem step_append_own {P : Program} {w : World} {ops : Array Oper} {o : Oper} {a : Act} {K : Act → World → Prop} {Q : Exit → Act → World → Prop} {E : Prop} (hg : o.guard = none) (s x : Operand) (t : TypeId)
    (ho : o.op = .call { callee := .builtin .append, args := #[s, x], argTypes := #[t, t] })
    (base : Nat) (e : TypeId) (i : TypeInfo) (z : Value) (size bytes : Nat) (ht : P.underlying t = some (.slice e)) (hi : P.info? e = some i) (hz : i.zero = some z)
    (hsize : i.size = size) (hby : i.bytes = bytes) (hzs : z.cells.size = size) (hsz : 0 < size)
    (v : Value) (n : Nat) (xs : List Value) (hs : a.eval s = v) (hown : w.ownsRow base e size v n xs)
    (ad : Addr) (m c : Nat) (news : List Value) (hx : a.eval x = .slice (some ad) m c) (hl : news.length = m * size) (hnews : ∀ j u, news[j]? = some u → w.cell? (ad.add j) = some u) (h1 : ∀ u ∈ news, u.oneCell' = true)
    (h63 : n + m ≤ maxLen) (hbytes : (n + m) * bytes ≤ 140737488355328) (hbase : base ≤ w.heap.size)
    (h : ∀ v' w', w'.ownsRow base e size v' (n + m) (xs ++ news) → w.grownBy w' v.ownBlock → K (a.put o.dst v') w') :
    if Region.wanted o (yielded ops a.tmps) = true then Oper.wp P o a w K Q else E := by
  rw [if_pos (by simp [Region.wanted, hg])]
  exact wp_append_own w s x t ho base e i z size bytes ht hi hz hsize hby hzs hsz v n xs hs hown ad m c news hx hl hnews h1 h63 hbytes hbase fun v' w' h2 h3 _ => h v' w' h2 h3

/-- an append to the scanner's list, and the store of it -/
theorem IsScan.app {B b : Nat} {s : ByteArray} {i : Nat} {l : List Tok} {w w0 w9 : World} {v v' : Value} {t : Tok} (h : IsScan B b s i l w) (hW : Ws B b w0 w) (hBw : B ≤ w.heap.size)
    (hc2 : w.cell? ⟨b, 2, none⟩ = some v) (o : Obj) (hown9 : w9.ownsRow B 75 4 v' (l.length + 1) (toksCells l ++ t.cells)) (hgrow : (w.alloc o).grownBy w9 v.ownBlock) :
    IsScan B b s i (l ++ [t]) (w9.setCell ⟨b, 2, none⟩ v') ∧ Ws B b w0 (w9.setCell ⟨b, 2, none⟩ v') ∧ w9.cell? ⟨b, 2, none⟩ = some v ∧ w9.frozen? ⟨b, 2, none⟩ = false := by
  have hlt := h.lt
  obtain ⟨hB, v0, hb, ho, hn⟩ := h
  have : v0 = v := by rw [Lib.cell_of_heap hb] at hc2; simpa using hc2
  subst this
  have hb9 : w9.heap[b]? = some (.cells #[.string s, .int .i64 i, v0] 138 (0, 0)) := by
    rw [hgrow.block b (by simp; omega) (fun e => hn e.symm), Lib.alloc_old w _ b hlt]
    exact hb
  have hne9 : v'.ownBlock ≠ some b := by
    intro he
    obtain ⟨c, fz, hk⟩ := Lib.ownsRow_kind hown9 b he
    rw [hb9] at hk
    injection hk with hk
    injection hk with _ hk _
    exact absurd hk (by decide)
  refine ⟨⟨hB, v', ?_, ?_, hne9⟩, ?_, ?_, ?_⟩
  · simp [World.setCell, Array.getElem?_modify, hb9]
  · refine World.ownsRow.kept (row := some b) (w := w9) (by simpa [toksCells] using hown9) ⟨rfl, rfl, rfl, by simp [World.setCell], fun k _ hk => Below.heap_setCell _ _ _ _ (fun e => hk (by simp [e]))⟩ ?_
    exact Or.inr hne9
  · exact Ws.set ⟨below_app hW.below hBw ho hgrow, (hW.others.alloc o).grown hgrow (Lib.ownsRow_kind (ho.alloc o))⟩ hB _ _
  · rw [Lib.cell_of_heap hb9]; rfl
  · exact Lib.frozen_of_heap hb9 2

theorem own_some {w : World} {B : Nat} {e : TypeId} {size : Nat} {v : Value} {n : Nat} {xs : List Value} (h : w.ownsRow B e size v (n + 1) xs) : ∃ g cap, v = .slice (some ⟨g, 0, none⟩) (n + 1) cap := by
  rcases h.2 with ⟨_, h0⟩ | ⟨g, cap, cur, hv, _⟩
  · omega
  · exact ⟨g, cap, hv⟩

theorem le_alloc_drew {B : Nat} {w : World} (h : B ≤ w.heap.size) (o : Obj) : B ≤ ((w.alloc o).drew).heap.size := by
  have : ((w.alloc o).drew).heap.size = w.heap.size + 1 := World.size_alloc w o
  omega
theorem IsScan.app_drew {B b : Nat} {s : ByteArray} {i : Nat} {l : List Tok} {w w9 : World} {v v' : Value} {t : Tok} (h : IsScan B b s i l w) (hBw : B ≤ w.heap.size)
    (hc2 : w.cell? ⟨b, 2, none⟩ = some v) (o : Obj) (hown9 : w9.ownsRow B 75 4 v' (l.length + 1) (toksCells l ++ t.cells)) (hgrow : ((w.alloc o).drew).grownBy w9 v.ownBlock) :
    IsScan B b s i (l ++ [t]) (w9.setCell ⟨b, 2, none⟩ v') ∧ Ws B b w (w9.setCell ⟨b, 2, none⟩ v') ∧ w9.cell? ⟨b, 2, none⟩ = some v ∧ w9.frozen? ⟨b, 2, none⟩ = false :=
  IsScan.app (w := w.drew) (w0 := w) h ((Ws.refl B b w).drew) hBw hc2 o hown9 hgrow

set_option maxRecDepth 100000 in
set_option maxHeartbeats 1000000 in
theorem put_any (B b : Nat) (s : ByteArray) (i : Nat) (l : List Tok) (kind num j : Nat) (text : ByteArray) (w : World) (h : IsScan B b s i l w) (hl : l.length < 1000000000) (hBw : B ≤ w.heap.size) :
    Calls Tryd.prog 69 #[.pointer (some ⟨b, 0, none⟩), .int .i64 kind, .string text, .int .i64 num, .int .i64 j] w fun e w' => e = .returned (.tuple #[]) ∧ IsScan B b s j (l ++ [⟨kind, text, num, i⟩]) w' ∧ Ws B b w w' := by
  obtain ⟨i0, hi, hz0, hz1, hz2⟩ := info_parts info_tok
  have c0 := h.c0
  have c1 := h.c1
  have f1 := h.fz 1
  have f2 := h.fz 2
  obtain ⟨v, c2, hown⟩ : ∃ v, w.cell? ⟨b, 2, none⟩ = some v ∧ w.ownsRow B 75 4 v l.length (toksCells l) := by
    obtain ⟨_, v, hb, ho, _⟩ := h
    exact ⟨v, by rw [Lib.cell_of_heap hb]; rfl, ho⟩
  have a2 : (w.alloc (.cells #[.int .i64 kind, .string text, .int .i64 num, .int .i64 i] 75)).cell? ⟨b, 2, none⟩ = some v := (((Below.refl w.heap.size w).alloc (Nat.le_refl _) _).cell (p := ⟨b, 2, none⟩) h.lt).trans c2
  have HI := Lib.hid h
  clear h
  go_enter Tryd.func69, Tryd.ntmps69
  go_upto_region 0 with fail
  go_cut [] (fun wx => IsScan B b s i (l ++ [⟨kind, text, num, i⟩]) wx ∧ Ws B b w wx)
  case first =>
    go_region_law (refine step_append_own rfl (.tmp 14) (.tmp 23) 69 rfl B 75 i0 (.agg #[.int .i64 0, .string ⟨#[]⟩, .int .i64 0, .int .i64 0]) 4 40 Tryd.underlying69 hi hz0 hz1 hz2 rfl (by decide) v l.length (toksCells l) (by simp [Act.eval]) (hown.alloc _) ⟨w.heap.size, 0, none⟩ 1 1 (Tok.cells ⟨kind, text, num, i⟩) (by simp [Act.eval]) rfl (cells_new _ _ _) (Tok.one _) (by unfold maxLen; omega) (by omega) (le_alloc_drew hBw _) ?_; intro v' w9 hown9 hgrow; obtain ⟨g, cap, rfl⟩ := own_some hown9; obtain ⟨hA, hB2, d2, e2⟩ := IsScan.app_drew (t := ⟨kind, text, num, i⟩) HI.out hBw c2 _ hown9 hgrow)
    all_goals (go_wp2_with fail; go_meet; exact ⟨hA, hB2⟩)
  case rest =>
    obtain ⟨hA, hW⟩ := hcut
    have c1' := hA.c1
    have f1' := hA.fz 1
    have HA := Lib.hid hA
    clear hA
    go_wp2_with fail
    go_end0
    exact ⟨rfl, HA.out.at_ j, hW.set HA.out.le 1 _⟩
end Go.Proofs.YtaijdpckkobofaaDoor
