/- The builder's calls: Emit, Patch, Msg, Route, Send. (wip/gen_bb1.py) -/
import Derived.Test.YtaijdpckkobofaaDoorBIdx
namespace Go.Proofs.YtaijdpckkobofaaDoor
open Go.RowKit
set_option linter.unusedVariables false

theorem pinsCells_len (l : List PIns) : (pinsCells l).length = l.length * 3 := by
  induction l with
  | nil => rfl
  | cons x l ih => simp only [pinsCells, List.flatMap_cons, List.length_append, List.length_cons, PIns.cells] at ih ⊢; rw [ih]; simp; omega
theorem pinsCells_one (l : List PIns) : ∀ u ∈ pinsCells l, u.oneCell' = true := by
  intro u hu
  obtain ⟨x, _, hx⟩ := List.mem_flatMap.1 hu
  simp only [PIns.cells, List.mem_cons, List.not_mem_nil, or_false] at hx
  rcases hx with rfl | rfl | rfl <;> rfl
theorem InsA.nil_len {w : World} {l : List PIns} (h : InsA w none l) : l = [] := by
  cases l with
  | nil => rfl
  | cons x l => obtain ⟨_, g, o, e, _⟩ := h 0 x rfl; cases e
theorem InsA.plain {w : World} {a : Addr} {l : List PIns} (h : InsA w (some a) l) (h0 : l ≠ []) : ∃ g o, a = ⟨g, o, none⟩ := by
  obtain ⟨x, hx⟩ := get_of_lt (l := l) (k := 0) (List.length_pos_iff.2 h0)
  obtain ⟨_, g, o, e, _⟩ := h 0 x hx
  exact ⟨g, o, Option.some.inj e⟩
theorem InsA.flat {w : World} {g o : Nat} {l : List PIns} (h : InsA w (some ⟨g, o, none⟩) l) : ∀ j u, (pinsCells l)[j]? = some u → w.cell? ((⟨g, o, none⟩ : Addr).add j) = some u := by
  intro j u hu
  have hjl := some_lt hu
  rw [pinsCells_len] at hjl
  obtain ⟨x, hx⟩ := get_of_lt (l := l) (k := j / 3) (by omega)
  have e1 : j / 3 * 3 + j % 3 = j := by omega
  have := flat_get (f := PIns.cells) (m := 3) (fun _ => rfl) l (j / 3) (j % 3) x hx (by omega)
  rw [e1] at this
  rw [pinsCells, this] at hu
  obtain ⟨_, g', o', e, _, hc⟩ := h (j / 3) x hx
  cases e
  have := hc (j % 3) u hu
  rw [add_plain, ← this]
  congr 2; omega
/-- the cells of a list, wherever it lies -/
theorem InsA.any {w : World} {a : Addr} {l : List PIns} (h : InsA w (some a) l) : ∀ j u, (pinsCells l)[j]? = some u → w.cell? (a.add j) = some u := by
  by_cases h0 : l = []
  · subst h0; intro j u hu; simp [pinsCells] at hu
  · obtain ⟨g, o, rfl⟩ := h.plain h0
    exact h.flat
theorem StopsA.any {w : World} {a : Addr} {l : List PStop} (h : StopsA w (some a) l) : ∀ j u, (stopsCells l)[j]? = some u → w.cell? (a.add j) = some u := by
  by_cases h0 : l = []
  · subst h0; intro j u hu; simp [stopsCells] at hu
  · obtain ⟨g, o, rfl⟩ := h.plain h0
    exact h.flat
theorem IntsA.any {w : World} {a : Addr} {l : List Int} (h : IntsA w (some a) l) : ∀ j u, (intsCells l)[j]? = some u → w.cell? (a.add j) = some u := by
  by_cases h0 : l = []
  · subst h0; intro j u hu; simp [intsCells] at hu
  · obtain ⟨g, o, rfl⟩ := h.plain h0
    exact h.flat
theorem Moved.same (w : World) (v : Value) : Moved w v v := Or.inl rfl
theorem grown_refl (w : World) (r : Option Nat) : w.grownBy w r := ⟨rfl, rfl, rfl, Nat.le_refl _, fun _ _ _ => rfl⟩
theorem BAt.cell {F : Nat → Prop} {T : TypeId} {b : Nat} {w : World} {p : PProg} {vc vm vr vs : Value} {ms rs ss : List Value} (h : BAt F T b w p vc vm vr vs ms rs ss) : w.cell? ⟨b, 0, none⟩ = some vc ∧ w.cell? ⟨b, 1, none⟩ = some vm ∧ w.cell? ⟨b, 2, none⟩ = some vr ∧ w.cell? ⟨b, 3, none⟩ = some vs ∧ w.cell? ⟨b, 4, none⟩ = some (.int .i64 0) ∧ w.cell? ⟨b, 5, none⟩ = some (.int .i64 0) ∧ w.cell? ⟨b, 6, none⟩ = some (.int .i64 0) ∧ w.cell? ⟨b, 7, none⟩ = some (.int .i64 0) :=
  ⟨(Lib.cell_of_heap h.here _).trans rfl, (Lib.cell_of_heap h.here _).trans rfl, (Lib.cell_of_heap h.here _).trans rfl, (Lib.cell_of_heap h.here _).trans rfl, (Lib.cell_of_heap h.here _).trans rfl, (Lib.cell_of_heap h.here _).trans rfl, (Lib.cell_of_heap h.here _).trans rfl, (Lib.cell_of_heap h.here _).trans rfl⟩

set_option maxRecDepth 100000 in
set_option maxHeartbeats 2000000 in
theorem emit_any (F : Nat → Prop) (b : Nat) (w : World) (p : PProg) (h : Bd F 30 b w p) (la : Option Addr) (n c : Nat) (xs : List PIns) (hl : InsA w la xs) (hn : xs.length = n) (hnil : la = none → c = 0) (hlim : p.code.length + n ≤ 4294967296) :
    Calls Tryd.prog 9 #[.pointer (some ⟨b, 0, none⟩), .slice la n c] w fun e w' => e = .returned (.int .i64 (p.code.length : Int)) ∧ Adv F 30 b w { p with code := p.code ++ xs } w' := by
  obtain ⟨vc, vm, vr, vs, ms, rs, ss, hB⟩ := h
  obtain ⟨ca, cc, ma, mc, ra, rc, sa, sc, rfl, rfl, rfl, rfl⟩ := hB.sl
  have HB := Lib.hid hB
  obtain ⟨c0, -⟩ := hB.cell
  have f0 := Lib.frozen_of_heap hB.here 0
  have hbl := hB.blt
  have hown := hB.code
  have hops : ∀ x ∈ xs, x.op ≤ 255 := fun x hx => by
    obtain ⟨k, hk⟩ := List.mem_iff_getElem?.1 hx
    exact (hl k x hk).1
  have HOPS := Lib.hid hops
  obtain ⟨n0, hn0⟩ : ∃ n, p.code.length = n := ⟨_, rfl⟩
  have HN0 := Lib.hid hn0
  have HN := Lib.hid hn
  rw [hn0] at c0 hown hlim ⊢
  have HOWN := Lib.hid hown
  clear hops hn0 hB hown
  obtain ⟨i0, hi, hz0, hz1, hz2⟩ := info_parts info_pins
  cases la with
  | none =>
    obtain rfl := hl.nil_len
    obtain rfl : 0 = n := HN.out
    obtain rfl := hnil rfl
    clear hl
    go_enter Tryd.func9, Tryd.ntmps9
    go_wp2_with (first | (at_builtin; refine wpList_append_own_none rfl (.tmp 17) (.tmp 18) 23 rfl 0 33 i0 3 Tryd.underlying23 hi _ n0 _ rfl HOWN.out rfl ?_))
    go_ret
    refine ⟨rfl, ?_⟩
    have := HB.out.putCode (w1 := w) tags_b (vc' := .slice ca n0 cc) (xs := []) (n := n0) (grown_refl _ _) (by rw [HN0.out]; rfl) (by rw [show pinsCells ([] : List PIns) = [] from rfl, List.append_nil]; exact HOWN.out) (by rw [HN0.out]; exact Moved.same _ _) (fun x hx => by cases hx)
    simp only [List.append_nil] at this ⊢
    exact this
  | some ad =>
    clear hnil
    have hcells := hl.any
    have hxl : (pinsCells xs).length = n * 3 := by rw [pinsCells_len, hn]
    clear hl hn
    go_enter Tryd.func9, Tryd.ntmps9
    go_wp2_with (first | (at_builtin; refine wpList_append_mv rfl (.tmp 17) (.tmp 18) 23 rfl 0 33 i0 (.agg #[.int .u8 0, .int .i64 0, .int .i64 0]) 3 24 Tryd.underlying23 hi hz0 hz1 hz2 rfl (by decide) _ n0 _ rfl HOWN.out ad n c (pinsCells xs) rfl hxl hcells (pinsCells_one xs) (by unfold maxLen; omega) (by omega) (Nat.zero_le _) ?_; intro v' w9 hown9 hgrow hmv; obtain ⟨a9, c9, rfl⟩ := own_slice_n hown9; have hh9 := block_grown HB.out.here HOWN.out tags_b.1 hgrow; have d0 : w9.cell? ⟨b, 0, none⟩ = some (.slice ca n0 cc) := (by have h := Lib.cell_of_heap hh9 0; rw [HN0.out] at h; exact h); have g0 := Lib.frozen_of_heap hh9 0; have HO9 := Lib.hid hown9; have HG9 := Lib.hid hgrow; have HM9 := Lib.hid hmv; clear hown9 hgrow hmv hh9))
    go_ret
    refine ⟨rfl, ?_⟩
    exact HB.out.putCode tags_b (by rw [HN0.out]; exact HG9.out) (by rw [HN0.out, HN.out]) HO9.out (by rw [HN0.out]; exact HM9.out) HOPS.out

def PatchOut (F : Nat → Prop) (b : Nat) (p : PProg) (at_ tv : Int) (w : World) (e : Ending) (w' : World) : Prop :=
  (¬ (0 ≤ at_ ∧ at_ < p.code.length) ∧ e = .returned (.int .i64 1) ∧ w = w') ∨ ∃ (k : Nat) (x : PIns), at_ = (k : Int) ∧ p.code[k]? = some x ∧ e = .returned (.int .i64 0) ∧ Adv F 30 b w { p with code := p.code.set k { x with a := tv } } w'
set_option maxRecDepth 100000 in
set_option maxHeartbeats 2000000 in
theorem patch_any (F : Nat → Prop) (b : Nat) (w : World) (p : PProg) (h : Bd F 30 b w p) (at_ tv : Int) (hlim : p.code.length ≤ 4294967296) :
    Calls Tryd.prog 38 #[.pointer (some ⟨b, 0, none⟩), .int .i64 at_, .int .i64 tv] w (PatchOut F b p at_ tv w) := by
  obtain ⟨vc, vm, vr, vs, ms, rs, ss, hB⟩ := h
  obtain ⟨ca, cc, ma, mc, ra, rc, sa, sc, rfl, rfl, rfl, rfl⟩ := hB.sl
  have HB := Lib.hid hB
  obtain ⟨c0, -⟩ := hB.cell
  obtain ⟨n0, hn0⟩ : ∃ n, p.code.length = n := ⟨_, rfl⟩
  have HN0 := Lib.hid hn0
  rw [hn0] at c0 hlim
  clear hn0 hB
  by_cases h1 : at_ < 0
  · go_enter Tryd.func38, Tryd.ntmps38
    go_wp2_with fail
    go_ret
    exact Or.inl ⟨by rw [HN0.out]; omega, rfl, rfl⟩
  · by_cases h2 : (n0 : Int) ≤ at_
    · go_enter Tryd.func38, Tryd.ntmps38
      go_wp2_with fail
      go_ret
      exact Or.inl ⟨by rw [HN0.out]; omega, rfl, rfl⟩
    · obtain ⟨k, rfl⟩ := Int.eq_ofNat_of_zero_le (show 0 ≤ at_ by omega)
      have hk : k < n0 := by omega
      obtain ⟨x, hx⟩ : ∃ x, p.code[k]? = some x := ⟨_, List.getElem?_eq_getElem (by rw [HN0.out]; exact hk)⟩
      obtain ⟨g, cg, hv, hnc, d0, g0, hadv⟩ := HB.out.patch tags_b hx tv
      injection hv with e1 _ e2
      subst e1 e2
      have HA := Lib.hid hadv
      have HX := Lib.hid hx
      clear hadv hx
      rw [HN0.out] at hnc
      go_enter Tryd.func38, Tryd.ntmps38
      go_wp2_with fail
      go_ret
      exact Or.inr ⟨k, x, rfl, HX.out, rfl, HA.out⟩

set_option maxRecDepth 100000 in
set_option maxHeartbeats 4000000 in
theorem msg_any (F : Nat → Prop) (b : Nat) (w : World) (p : PProg) (h : Bd F 30 b w p) (a : Option Addr) (n c : Nat) (m : List UInt8) (hA : BsA w a m) (hn : m.length = n) (hb2 : n ≤ 140737488355328) (hlim : p.msgs.length ≤ 4294967296) :
    Calls Tryd.prog 40 #[.pointer (some ⟨b, 0, none⟩), .slice a n c] w fun e w' => ∃ k, IsFirst p.msgs m k ∧ e = .returned (.int .i64 (k : Int)) ∧ Adv F 30 b w (if k < p.msgs.length then p else { p with msgs := p.msgs ++ [m] }) w' := by
  obtain ⟨vc, vm, vr, vs, ms, rs, ss, hB⟩ := h
  obtain ⟨ca, cc, ma, mc, ra, rc, sa, sc, rfl, rfl, rfl, rfl⟩ := hB.sl
  obtain ⟨w1, q, hw1, hq⟩ : ∃ w1 q, w.alloc (.cells #[.slice a n c] 35) = w1 ∧ w.heap.size = q := ⟨_, _, rfl, rfl⟩
  have hb1 : Below w.heap.size w w1 := by rw [← hw1]; exact (Below.refl _ _).alloc (Nat.le_refl _) _
  have hh1 : w1.heap[q]? = some (.cells #[.slice a n c] 35 (0, 0)) := by rw [← hw1, ← hq]; exact heap_new _ _
  have hB1 := hB.of_below hb1
  have HA1 := Lib.hid (hA.below hb1)
  have HX := Lib.hid (indexf_b ma p.msgs.length mc q p.msgs m w1 (MsgsA.ofOwn hB1.msgs hB1.msg rfl) rfl (by omega)  a n c HA1.out hn ((Lib.cell_of_heap hh1 _).trans rfl))
  obtain ⟨n1, hn1⟩ : ∃ n, p.msgs.length = n := ⟨_, rfl⟩
  rw [hn1] at HX hlim
  have HB1 := Lib.hid hB1
  have HN1 := Lib.hid hn1
  have HN := Lib.hid hn
  have HBL := Lib.hid hb1
  have HH1 := Lib.hid hh1
  have hql : q < w1.heap.size := (Array.getElem?_eq_some_iff.1 hh1).1
  have c1 : w1.cell? ⟨b, 1, none⟩ = some (.slice ma n1 mc) := by rw [← hn1]; exact hB1.cell.2.1
  have HBw := Lib.hid hB
  have HW1 := Lib.hid hw1
  have HQ := Lib.hid hq
  obtain ⟨i0, hi, hz0, hz1, hz2⟩ := info_parts info_slu8
  clear hB hB1 hn1 hb1 hh1 hw1 hq hA hn
  go_enter Tryd.func40, Tryd.ntmps40
  go_upto_region 1 with fail
  rw [HW1.out, HQ.out]
  clear HW1 HQ
  go_wp2_with fail
  refine HX.out.mono ?_
  rintro e w2 ⟨⟨k, hk, rfl⟩, hb2'⟩
  have HK := Lib.hid hk
  have HB2 := Lib.hid (HB1.out.of_below hb2')
  have HA2 := Lib.hid (HA1.out.below hb2')
  have HBL2 := Lib.hid (HBL.out.trans (hb2'.mono HBL.out.size))
  have hkn := hk.1
  rw [HN1.out] at hkn
  have d1 : w2.cell? ⟨b, 1, none⟩ = some (.slice ma n1 mc) := by rw [← HN1.out]; exact HB2.out.cell.2.1
  have dq : w2.cell? ⟨q, 0, none⟩ = some (.slice a n c) := (hb2'.cell (p := ⟨q, 0, none⟩) hql).trans ((Lib.cell_of_heap HH1.out _).trans rfl)
  have hb2l : b < w2.heap.size := HB2.out.blt
  have hq2l : q < w2.heap.size := by have := hb2'.size; omega
  clear c1 hk hb2' HX
  by_cases hlt : k < n1
  · rw [if_pos hlt]
    go_wp2_with fail
    go_ret
    refine ⟨k, HK.out, rfl, ?_⟩
    rw [HN1.out, if_pos hlt]
    exact Adv.same ⟨_, _, _, _, _, _, _, HBw.out⟩ HBL2.out
  · obtain rfl : k = n1 := by omega
    rw [if_neg hlt]
    have HCL := Lib.hid (fun (W : World) (hW : Below w2.heap.size w2 W) => clone_any a c n m W (HA2.out.below hW) HN.out (by omega))
    go_upto_region 4 with fail
    go_cut [] (fun wx => Adv F 30 b w { p with msgs := p.msgs ++ [m] } wx)
    case first =>
      go_region_law (first
        | (refine mstep_append_mv rfl (.tmp 26) (.tmp 29) 24 rfl 0 35 i0 (.slice none 0 0) 1 24 Tryd.underlying24 hi hz0 hz1 hz2 rfl (by decide) _ k _ (by simp [Act.eval]) (hms5.alloc _) ⟨w5.heap.size, 0, none⟩ 1 1 [.slice a5 n c5] (by simp [Act.eval]) rfl (mcells_new _ [_] _) (one_cell _ rfl) (by unfold maxLen; omega) (by omega) (Nat.zero_le _) ?_; intro v9 w9 hown9 hgrow9 hmv9; obtain ⟨a9, c9, rfl⟩ := own_slice_n hown9; have hh9 := block_grown (HB5.out.of_below ((Below.refl _ _).alloc (Nat.le_refl _) _)).here (hms5.alloc _) (by decide) hgrow9; have p19 : w9.cell? ⟨b, 1, none⟩ = some (.slice ma k mc) := (by have h := Lib.cell_of_heap hh9 1; rw [HN1.out] at h; exact h); have f19 := Lib.frozen_of_heap hh9 1; have hg9 := Lib.hid hgrow9; have ho9 := Lib.hid hown9; have hm9 := Lib.hid hmv9; clear hgrow9 hown9 hmv9 hh9)
        | (go_simp; go_at_call 82; refine (HCL.out _ (by exact Below.drew (Below.refl _ _))).mono ?_; rintro e w5 ⟨v5, rfl, ho5, hb5d⟩; have hb5 : Below w2.heap.size w2 w5 := Below.trans (Below.drew (Below.refl _ _)) hb5d; rw [HN.out] at ho5; obtain ⟨a5, c5, rfl⟩ := own_slice_n ho5; have HO5 := Lib.hid ho5; have HB5 := Lib.hid (HB2.out.of_below hb5); have hms5 : w5.ownsRow 0 35 1 (.slice ma k mc) k ms := (by have h := HB5.out.msgs; rw [HN1.out] at h; exact h); have d15 : w5.cell? ⟨b, 1, none⟩ = some (.slice ma k mc) := (hb5.cell (p := ⟨b, 1, none⟩) hb2l).trans d1; have dq5 : w5.cell? ⟨q, 0, none⟩ = some (.slice a n c) := (hb5.cell (p := ⟨q, 0, none⟩) hq2l).trans dq; have HBL5 := Lib.hid hb5; have hb5l : b < w5.heap.size := HB5.out.blt; have hq5l : q < w5.heap.size := Nat.lt_of_lt_of_le hq2l hb5.size; clear ho5 hb5d hb5))
      all_goals
        go_wp2_with fail
        go_meet
        exact (BAt.putMsg tags_b HB2.out (Chg.of_below (F := fun _ => False) (HBL5.out.trans (((Below.refl w5.heap.size w5).alloc (Nat.le_refl _) (.cells #[.slice a5 n c5] 35)).mono HBL5.out.size))) (fun _ _ => id) (by rw [HN.out]; exact HO5.out.alloc _) (by rw [HN1.out]; exact hg9.out) (by rw [HN1.out]) ho9.out (by rw [HN1.out]; exact hm9.out)).adv HBL2.out fun _ h => h.elim
    case rest =>
      have HAD := Lib.hid hcut
      clear hcut
      go_wp2_with fail
      go_ret
      refine ⟨k, HK.out, rfl, ?_⟩
      rw [HN1.out, if_neg hlt]
      exact HAD.out

set_option maxRecDepth 100000 in
set_option maxHeartbeats 4000000 in
theorem broute_any (F : Nat → Prop) (b : Nat) (w : World) (p : PProg) (h : Bd F 30 b w p) (a : Option Addr) (n c : Nat) (m : List PStop) (hA : StopsA w a m) (hn : m.length = n) (hb2 : n ≤ 4398046511104) (hlim : p.routes.length ≤ 4294967296) (hll : ∀ x ∈ p.routes, x.length ≤ 140737488355328) :
    Calls Tryd.prog 42 #[.pointer (some ⟨b, 0, none⟩), .slice a n c] w fun e w' => ∃ k, IsFirst p.routes m k ∧ e = .returned (.int .i64 (k : Int)) ∧ Adv F 30 b w (if k < p.routes.length then p else { p with routes := p.routes ++ [m] }) w' := by
  obtain ⟨vc, vm, vr, vs, ms, rs, ss, hB⟩ := h
  obtain ⟨ca, cc, ma, mc, ra, rc, sa, sc, rfl, rfl, rfl, rfl⟩ := hB.sl
  obtain ⟨w1, q, hw1, hq⟩ : ∃ w1 q, w.alloc (.cells #[.slice a n c] 36) = w1 ∧ w.heap.size = q := ⟨_, _, rfl, rfl⟩
  have hb1 : Below w.heap.size w w1 := by rw [← hw1]; exact (Below.refl _ _).alloc (Nat.le_refl _) _
  have hh1 : w1.heap[q]? = some (.cells #[.slice a n c] 36 (0, 0)) := by rw [← hw1, ← hq]; exact heap_new _ _
  have hB1 := hB.of_below hb1
  have HA1 := Lib.hid (hA.below hb1)
  have HX := Lib.hid (indexf_r ra p.routes.length rc q p.routes m w1 (RoutesA.ofOwn hB1.routes hB1.route rfl) rfl (by omega) hll a n c HA1.out hn (by omega) ((Lib.cell_of_heap hh1 _).trans rfl))
  obtain ⟨n1, hn1⟩ : ∃ n, p.routes.length = n := ⟨_, rfl⟩
  rw [hn1] at HX hlim
  have HB1 := Lib.hid hB1
  have HN1 := Lib.hid hn1
  have HN := Lib.hid hn
  have HBL := Lib.hid hb1
  have HH1 := Lib.hid hh1
  have hql : q < w1.heap.size := (Array.getElem?_eq_some_iff.1 hh1).1
  have c1 : w1.cell? ⟨b, 2, none⟩ = some (.slice ra n1 rc) := by rw [← hn1]; exact hB1.cell.2.2.1
  have HBw := Lib.hid hB
  have HW1 := Lib.hid hw1
  have HQ := Lib.hid hq
  obtain ⟨i0, hi, hz0, hz1, hz2⟩ := info_parts info_slstop
  clear hB hB1 hn1 hb1 hh1 hw1 hq hA hn
  go_enter Tryd.func42, Tryd.ntmps42
  go_upto_region 1 with fail
  rw [HW1.out, HQ.out]
  clear HW1 HQ
  go_wp2_with fail
  refine HX.out.mono ?_
  rintro e w2 ⟨⟨k, hk, rfl⟩, hb2'⟩
  have HK := Lib.hid hk
  have HB2 := Lib.hid (HB1.out.of_below hb2')
  have HA2 := Lib.hid (HA1.out.below hb2')
  have HBL2 := Lib.hid (HBL.out.trans (hb2'.mono HBL.out.size))
  have hkn := hk.1
  rw [HN1.out] at hkn
  have d1 : w2.cell? ⟨b, 2, none⟩ = some (.slice ra n1 rc) := by rw [← HN1.out]; exact HB2.out.cell.2.2.1
  have dq : w2.cell? ⟨q, 0, none⟩ = some (.slice a n c) := (hb2'.cell (p := ⟨q, 0, none⟩) hql).trans ((Lib.cell_of_heap HH1.out _).trans rfl)
  have hb2l : b < w2.heap.size := HB2.out.blt
  have hq2l : q < w2.heap.size := by have := hb2'.size; omega
  clear c1 hk hb2' HX
  by_cases hlt : k < n1
  · rw [if_pos hlt]
    go_wp2_with fail
    go_ret
    refine ⟨k, HK.out, rfl, ?_⟩
    rw [HN1.out, if_pos hlt]
    exact Adv.same ⟨_, _, _, _, _, _, _, HBw.out⟩ HBL2.out
  · obtain rfl : k = n1 := by omega
    rw [if_neg hlt]
    have HCL := Lib.hid (fun (W : World) (hW : Below w2.heap.size w2 W) => clone_stops a c n m W (HA2.out.below hW) HN.out (by omega))
    go_upto_region 4 with fail
    go_cut [] (fun wx => Adv F 30 b w { p with routes := p.routes ++ [m] } wx)
    case first =>
      go_region_law (first
        | (refine mstep_append_mv rfl (.tmp 26) (.tmp 29) 25 rfl 0 36 i0 (.slice none 0 0) 1 24 Tryd.underlying25 hi hz0 hz1 hz2 rfl (by decide) _ k _ (by simp [Act.eval]) (hms5.alloc _) ⟨w5.heap.size, 0, none⟩ 1 1 [.slice a5 n c5] (by simp [Act.eval]) rfl (mcells_new _ [_] _) (one_cell _ rfl) (by unfold maxLen; omega) (by omega) (Nat.zero_le _) ?_; intro v9 w9 hown9 hgrow9 hmv9; obtain ⟨a9, c9, rfl⟩ := own_slice_n hown9; have hh9 := block_grown (HB5.out.of_below ((Below.refl _ _).alloc (Nat.le_refl _) _)).here (hms5.alloc _) (by decide) hgrow9; have p19 : w9.cell? ⟨b, 2, none⟩ = some (.slice ra k rc) := (by have h := Lib.cell_of_heap hh9 2; rw [HN1.out] at h; exact h); have f19 := Lib.frozen_of_heap hh9 2; have hg9 := Lib.hid hgrow9; have ho9 := Lib.hid hown9; have hm9 := Lib.hid hmv9; clear hgrow9 hown9 hmv9 hh9)
        | (go_simp; go_at_call 86; refine (HCL.out _ (by exact Below.drew (Below.refl _ _))).mono ?_; rintro e w5 ⟨v5, rfl, ho5, hb5d⟩; have hb5 : Below w2.heap.size w2 w5 := Below.trans (Below.drew (Below.refl _ _)) hb5d; obtain ⟨a5, c5, rfl⟩ := own_slice_n ho5; have HO5 := Lib.hid ho5; have HB5 := Lib.hid (HB2.out.of_below hb5); have hms5 : w5.ownsRow 0 36 1 (.slice ra k rc) k rs := (by have h := HB5.out.routes; rw [HN1.out] at h; exact h); have d15 : w5.cell? ⟨b, 2, none⟩ = some (.slice ra k rc) := (hb5.cell (p := ⟨b, 2, none⟩) hb2l).trans d1; have dq5 : w5.cell? ⟨q, 0, none⟩ = some (.slice a n c) := (hb5.cell (p := ⟨q, 0, none⟩) hq2l).trans dq; have HBL5 := Lib.hid hb5; have hb5l : b < w5.heap.size := HB5.out.blt; have hq5l : q < w5.heap.size := Nat.lt_of_lt_of_le hq2l hb5.size; clear ho5 hb5d hb5))
      all_goals
        go_wp2_with fail
        go_meet
        exact (BAt.putRoute tags_b HB2.out (Chg.of_below (F := fun _ => False) (HBL5.out.trans (((Below.refl w5.heap.size w5).alloc (Nat.le_refl _) (.cells #[.slice a5 n c5] 36)).mono HBL5.out.size))) (fun _ _ => id) (by rw [HN.out]; exact HO5.out.alloc _) (by rw [HN1.out]; exact hg9.out) (by rw [HN1.out]) ho9.out (by rw [HN1.out]; exact hm9.out)).adv HBL2.out fun _ h => h.elim
    case rest =>
      have HAD := Lib.hid hcut
      clear hcut
      go_wp2_with fail
      go_ret
      refine ⟨k, HK.out, rfl, ?_⟩
      rw [HN1.out, if_neg hlt]
      exact HAD.out

set_option maxRecDepth 100000 in
set_option maxHeartbeats 4000000 in
theorem bsend_any (F : Nat → Prop) (b : Nat) (w : World) (p : PProg) (h : Bd F 30 b w p) (a : Option Addr) (n c : Nat) (msg blk : Int) (r : List Int) (hA : IntsA w a r) (hn : r.length = n) (hb2 : n ≤ 17592186044416) (hlim : p.sends.length ≤ 4294967296) (hll : ∀ x ∈ p.sends, x.routes.length ≤ 140737488355328) :
    Calls Tryd.prog 44 #[.pointer (some ⟨b, 0, none⟩), .agg #[.int .i64 msg, .slice a n c, .int .i64 blk]] w fun e w' => ∃ k, IsFirst p.sends ⟨msg, r, blk⟩ k ∧ e = .returned (.int .i64 (k : Int)) ∧ Adv F 30 b w (if k < p.sends.length then p else { p with sends := p.sends ++ [⟨msg, r, blk⟩] }) w' := by
  obtain ⟨vc, vm, vr, vs, ms, rs, ss, hB⟩ := h
  obtain ⟨ca, cc, ma, mc, ra, rc, sa, sc, rfl, rfl, rfl, rfl⟩ := hB.sl
  obtain ⟨w1, q, hw1, hq⟩ : ∃ w1 q, w.alloc (.cells #[.int .i64 msg, .slice a n c, .int .i64 blk] 39) = w1 ∧ w.heap.size = q := ⟨_, _, rfl, rfl⟩
  have hb1 : Below w.heap.size w w1 := by rw [← hw1]; exact (Below.refl _ _).alloc (Nat.le_refl _) _
  have hh1 : w1.heap[q]? = some (.cells #[.int .i64 msg, .slice a n c, .int .i64 blk] 39 (0, 0)) := by rw [← hw1, ← hq]; exact heap_new _ _
  have hB1 := hB.of_below hb1
  have HA1 := Lib.hid (hA.below hb1)
  have HX := Lib.hid (indexf_s sa p.sends.length sc q p.sends ⟨msg, r, blk⟩ w1 (SpecsA.ofOwn hB1.sends hB1.send rfl) rfl (by omega) hll a n c HA1.out hn (by omega) ((Lib.cell_of_heap hh1 _).trans rfl) ((Lib.cell_of_heap hh1 _).trans rfl) ((Lib.cell_of_heap hh1 _).trans rfl))
  obtain ⟨n1, hn1⟩ : ∃ n, p.sends.length = n := ⟨_, rfl⟩
  rw [hn1] at HX hlim
  have HB1 := Lib.hid hB1
  have HN1 := Lib.hid hn1
  have HN := Lib.hid hn
  have HBL := Lib.hid hb1
  have HH1 := Lib.hid hh1
  have hql : q < w1.heap.size := (Array.getElem?_eq_some_iff.1 hh1).1
  have c1 : w1.cell? ⟨b, 3, none⟩ = some (.slice sa n1 sc) := by rw [← hn1]; exact hB1.cell.2.2.2.1
  have HBw := Lib.hid hB
  have hqw : w.heap.size ≤ q := by omega
  have hdj : ∀ i, F i → ¬ i = q := fun i hi e => by have := hB.lt i hi; omega
  have HDJ := Lib.hid hdj
  have hbq : b ≠ q := hdj b hB.inF
  have HW1 := Lib.hid hw1
  have HQ := Lib.hid hq
  obtain ⟨i0, hi, hz0, hz1, hz2⟩ := info_parts info_spec
  clear hB hB1 hn1 hb1 hh1 hw1 hq hA hn hdj
  go_enter Tryd.func44, Tryd.ntmps44
  go_upto_region 1 with fail
  rw [HW1.out, HQ.out]
  clear HW1 HQ
  go_wp2_with fail
  refine HX.out.mono ?_
  rintro e w2 ⟨⟨k, hk, rfl⟩, hb2'⟩
  have HK := Lib.hid hk
  have HB2 := Lib.hid (HB1.out.of_below hb2')
  have HA2 := Lib.hid (HA1.out.below hb2')
  have HBL2 := Lib.hid (HBL.out.trans (hb2'.mono HBL.out.size))
  have hkn := hk.1
  rw [HN1.out] at hkn
  have HH2 := Lib.hid ((hb2'.block q hql).trans HH1.out)
  have d1 : w2.cell? ⟨b, 3, none⟩ = some (.slice sa n1 sc) := by rw [← HN1.out]; exact HB2.out.cell.2.2.2.1
  have dq : w2.cell? ⟨q, 1, none⟩ = some (.slice a n c) := (Lib.cell_of_heap HH2.out _).trans rfl
  have hq2l : q < w2.heap.size := by have := hb2'.size; omega
  clear c1 hk hb2' HX
  by_cases hlt : k < n1
  · rw [if_pos hlt]
    go_wp2_with fail
    go_ret
    refine ⟨k, HK.out, rfl, ?_⟩
    rw [HN1.out, if_pos hlt]
    exact Adv.same ⟨_, _, _, _, _, _, _, HBw.out⟩ HBL2.out
  · obtain rfl : k = n1 := by omega
    rw [if_neg hlt]
    have HCL := Lib.hid (clone_ints a c n r w2 HA2.out HN.out hb2)
    go_wp2_with fail
    refine HCL.out.mono ?_
    rintro e w3 ⟨v5, rfl, ho5, hb3⟩
    obtain ⟨a5, c5, rfl⟩ := own_slice_n ho5
    have hh3 := (hb3.block q hq2l).trans HH2.out
    have e1 : w3.cell? ⟨q, 1, none⟩ = some (.slice a n c) := (Lib.cell_of_heap hh3 _).trans rfl
    have g1 := Lib.frozen_of_heap hh3 1
    obtain ⟨w4, hw4⟩ : ∃ z, w3.setCell ⟨q, 1, none⟩ (.slice a5 n c5) = z := ⟨_, rfl⟩
    have hh4 : w4.heap[q]? = some (.cells #[.int .i64 msg, .slice a5 n c5, .int .i64 blk] 39 (0, 0)) := by rw [← hw4]; exact setk_heap hh3 _
    have HC4 : Hid (Chg (fun i => i = q) w2 w4) := Lib.hid ((Chg.of_below (F := fun i => i = q) hb3).trans (by rw [← hw4]; exact Chg.of_set (F := fun i => i = q) w3 _ rfl) fun _ => Or.inl)
    have hB4 := HB2.out.keep HC4.out HDJ.out
    have HO4 : Hid (w4.ownsRow w2.heap.size 3 1 (.slice a5 n c5) n (intsCells r)) := Lib.hid (by rw [← hw4]; exact own_set hh3 ho5 (by decide) _ _)
    have m0 : w4.cell? ⟨q, 0, none⟩ = some (.int .i64 msg) := (Lib.cell_of_heap hh4 _).trans rfl
    have m1 : w4.cell? ⟨q, 1, none⟩ = some (.slice a5 n c5) := (Lib.cell_of_heap hh4 _).trans rfl
    have m2 : w4.cell? ⟨q, 2, none⟩ = some (.int .i64 blk) := (Lib.cell_of_heap hh4 _).trans rfl
    have d4 : w4.cell? ⟨b, 3, none⟩ = some (.slice sa k sc) := by rw [← HN1.out]; exact hB4.cell.2.2.2.1
    have HB4 := Lib.hid hB4
    have hb4l : b < w4.heap.size := hB4.blt
    have hss4 : w4.ownsRow 0 39 3 (.slice sa k sc) k (specCells p.sends ss) := (by have h := hB4.sends; rw [HN1.out] at h; exact h)
    have HW4 := Lib.hid hw4
    clear hb3 ho5 hh3 hh4 hB4 hw4 d1 dq
    go_upto_region 5 with fail
    rw [HW4.out]
    clear HW4 e1 g1
    go_cut [] (fun wx => Adv F 30 b w { p with sends := p.sends ++ [⟨msg, r, blk⟩] } wx)
    case first =>
      go_region_law (refine mstep_append_mv rfl (.tmp 30) (.tmp 32) 26 rfl 0 39 i0 (.agg #[.int .i64 0, .slice none 0 0, .int .i64 0]) 3 40 Tryd.underlying26 hi hz0 hz1 hz2 rfl (by decide) _ k _ (by simp [Act.eval]) (hss4.alloc _) ⟨w4.heap.size, 0, none⟩ 1 1 [.int .i64 msg, .slice a5 n c5, .int .i64 blk] (by simp [Act.eval]) rfl (mcells_new _ _ _) (spec_one _ _ _ _ _) (by unfold maxLen; omega) (by omega) (Nat.zero_le _) ?_; intro v9 w9 hown9 hgrow9 hmv9; obtain ⟨a9, c9, rfl⟩ := own_slice_n hown9; have hh9 := block_grown (HB4.out.of_below (Below.alloc (Below.drew (Below.refl _ _)) (Nat.le_refl _) _)).here (hss4.alloc _) (by decide) hgrow9; have p19 : w9.cell? ⟨b, 3, none⟩ = some (.slice sa k sc) := (by have h := Lib.cell_of_heap hh9 3; rw [HN1.out] at h; exact h); have f19 := Lib.frozen_of_heap hh9 3; have hg9 := Lib.hid hgrow9; have ho9 := Lib.hid hown9; have hm9 := Lib.hid hmv9; clear hgrow9 hown9 hmv9 hh9)
      all_goals
        go_wp2_with fail
        go_meet
        exact (BAt.putSend tags_b (m := ⟨msg, r, blk⟩) HB2.out (HC4.out.trans (Chg.of_below (F := fun _ => False) (Below.alloc (Below.drew (Below.refl _ _)) (Nat.le_refl _) (.cells #[.int .i64 msg, .slice a5 n c5, .int .i64 blk] 39))) fun _ h => h.elim) HDJ.out (by rw [HN.out]; exact HO4.out.alloc _) (by rw [HN1.out]; exact hg9.out) (by rw [HN1.out]) ho9.out (by rw [HN1.out]; exact hm9.out)).adv HBL2.out fun i h => by rw [h]; exact hqw
    case rest =>
      have HAD := Lib.hid hcut
      clear hcut
      go_wp2_with fail
      go_ret
      refine ⟨k, HK.out, rfl, ?_⟩
      rw [HN1.out, if_neg hlt]
      exact HAD.out
end Go.Proofs.YtaijdpckkobofaaDoor
