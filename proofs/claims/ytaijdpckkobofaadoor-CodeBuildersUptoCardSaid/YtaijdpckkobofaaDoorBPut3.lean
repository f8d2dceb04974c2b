/- The law's puts: Msg; Over. -/
import Derived.Test.YtaijdpckkobofaaDoorBPut2
import Derived.Test.YtaijdpckkobofaaDoorRDec2
namespace Go.Proofs.YtaijdpckkobofaaDoor
open Go.RowKit
set_option linter.unusedVariables false

/-- numbers of one cell each, in a block of the call's own -/
def Turns1 (a : Option Addr) (n c : Nat) (κ : IntKind) (e : TypeId) (w : World) : Prop := n = 0 ∨ ∃ g cur, a = some ⟨g, 0, none⟩ ∧ n ≤ c ∧ w.heap[g]? = some (.cells cur e (0, 0)) ∧ ∀ j, j < n → ∃ x, cur[j]? = some (.int κ x)
theorem Turns1.ofOwn {w : World} {B : Nat} {e : TypeId} {κ : IntKind} {a : Option Addr} {n c : Nat} {xs : List Value} (h : w.ownsRow B e 1 (.slice a n c) n xs) (hx : ∀ j, j < n → ∃ x, xs[j]? = some (.int κ x)) : Turns1 a n c κ e w := by
  rcases h.2 with ⟨_, h0⟩ | ⟨g, cap, cur, hv, _, hh, hnc, _, hcs, htk⟩
  · exact Or.inl h0
  · injection hv with e1 e2 e3
    subst e1 e3
    refine Or.inr ⟨g, cur, rfl, hnc, hh, fun j hj => ?_⟩
    obtain ⟨x, hx⟩ := hx j hj
    refine ⟨x, ?_⟩
    rw [← htk, List.getElem?_take] at hx
    split at hx
    · simpa using hx
    · cases hx
theorem Turns1.set {w : World} {e : TypeId} {κ : IntKind} {a : Option Addr} {n c k : Nat} (h : Turns1 a n c κ e w) {g : Nat} (ha : a = some ⟨g, 0, none⟩) (x : Int) : Turns1 a n c κ e (w.setCell ⟨g, k, none⟩ (.int κ x)) := by
  rcases h with h | ⟨g', cur, e1, h2, h3, h4⟩
  · exact Or.inl h
  · rw [ha] at e1
    cases e1
    refine Or.inr ⟨g, _, ha, h2, setk_heap h3 _, fun j hj => ?_⟩
    obtain ⟨y, hy⟩ := h4 j hj
    by_cases hjk : j = k
    · subst hjk
      have hlt := (Array.getElem?_eq_some_iff.1 hy).1
      exact ⟨x, by simp [hlt]⟩
    · exact ⟨y, by rw [Array.getElem?_setIfInBounds_ne (fun h => hjk h.symm)]; exact hy⟩

set_option maxRecDepth 100000 in
set_option maxHeartbeats 1000000 in
theorem over_any (a : Option Addr) (n c : Nat) (w : World) (h : Turns1 a n c .u8 5 w) (hn : n ≤ 140737488355328) :
    Calls Tryd.prog 23 #[.slice a n c] w fun e w' => e = .returned (.tuple #[]) ∧ Chg (fun i => (Value.ownBlock (.slice a n c)) = some i) w w' := by
  have HT0 := Lib.hid h
  clear h
  go_enter Tryd.func23, Tryd.ntmps23
  go_wp2_with fail
  go_loopw [2] (fun ix wr => ∃ k : Nat, k ≤ n ∧ ix = .int .i64 k ∧ Turns1 a n c .u8 5 wr ∧ Chg (fun i => (Value.ownBlock (.slice a n c)) = some i) w wr) (fun ix _ => n - (intOf ix).toNat)
  case atStart => exact ⟨0, by omega, rfl, HT0.out, Chg.refl _ _⟩
  case round =>
    obtain ⟨wo, hwo⟩ : ∃ z : World, wr = z := ⟨_, rfl⟩
    obtain ⟨k, hk, rfl, hT, hC⟩ := hrel
    rw [hwo] at hT hC ⊢
    clear hwo
    by_cases hlt : k < n
    · have HT := Lib.hid hT
      have HC := Lib.hid hC
      rcases hT with h0 | ⟨g, cur, hag, hnd, hh, hj⟩
      · omega
      · obtain ⟨y, hy⟩ := hj k hlt
        have e1 : wo.cell? ⟨g, k, none⟩ = some (.int .u8 y) := (Lib.cell_of_heap hh _).trans hy
        have e2 := Lib.frozen_of_heap hh k
        subst hag
        clear hh hj hy hC
        go_wp2_with fail
        go_roundw
        case rel => exact ⟨k + 1, by omega, by go_num, HT.out.set rfl _, HC.out.trans (Chg.of_set (F := fun i => (Value.ownBlock (.slice (some ⟨g, 0, none⟩) n c)) = some i) wo _ rfl) fun _ => Or.inl⟩
        case measure => simp [intOf]; omega
    · go_wp2_with fail
      go_end0
      exact ⟨rfl, hC⟩
theorem Sz.msg {N K : Nat} {p : PProg} (h : Sz N p) {m : List UInt8} (k : m.length + 1 ≤ K) : Sz (N + K) { p with msgs := p.msgs ++ [m] } := by
  obtain ⟨⟨h1, h2, h3, h4⟩, h5, h6, h7⟩ := h
  refine ⟨⟨Nat.le_trans h1 (by omega), ?_, Nat.le_trans h3 (by omega), Nat.le_trans h4 (by omega)⟩, fun x hx => ?_, fun m hm => Nat.le_trans (h6 m hm) (by omega), fun m hm => Nat.le_trans (h7 m hm) (by omega)⟩
  · show (p.msgs ++ [m]).length ≤ _
    rw [List.length_append, List.length_singleton]; omega
  · rcases List.mem_append.1 hx with hx | hx
    · exact Nat.le_trans (h5 x hx) (by omega)
    · simp only [List.mem_singleton] at hx
      subst hx; omega
theorem Bd.msgs {F : Nat → Prop} {T : TypeId} {b : Nat} {w : World} {p : PProg} (h : Bd F T b w p) : ∃ a c ms, w.cell? ⟨b, 1, none⟩ = some (.slice a p.msgs.length c) ∧ w.frozen? ⟨b, 1, none⟩ = false ∧ w.ownsRow 0 35 1 (.slice a p.msgs.length c) p.msgs.length ms ∧ OwnMs 0 w ms p.msgs := by
  obtain ⟨vc, vm, vr, vs, ms, rs, ss, h⟩ := h
  obtain ⟨_, _, ma, mc, _, _, _, _, _, rfl, _⟩ := h.sl
  exact ⟨ma, mc, ms, h.cell.2.1, Lib.frozen_of_heap h.here 1, h.msgs, h.msg⟩

set_option maxRecDepth 100000 in
set_option maxHeartbeats 8000000 in
theorem puts_k3 (b z N K : Nat) (w0 w : World) (p : PProg) (F G : Nat → Prop) (hw : Below w0.heap.size w0 w) (h : St2 w0.heap.size b z w p p F G) (hsz : Sz N p) (hN : N ≤ 4194304) (a t m bl : Int) (x1 x2 x3 x4 : Option Addr) (n1 n2 n3 n4 c1 c2 c3 c4 : Nat) (tx : List UInt8) (hA : BsA w0 x2 tx) (hn : tx.length = n2) (hnil : x2 = none → c2 = 0) (hK : n2 + 1 ≤ K) (hNK : N + K ≤ 4194304) :
    Calls Tryd.prog 11 #[.pointer (some ⟨b, 0, none⟩), .pointer (some ⟨z, 0, none⟩), .agg #[.int .i64 3, .int .i64 a, .int .i64 t, .slice x1 n1 c1, .slice x2 n2 c2, .slice x3 n3 c3, .int .i64 m, .slice x4 n4 c4, .int .i64 bl]] w fun e w' => e = .returned (.bool true) ∧ Both w0 b z (N + K) w' ∧ Chg (fun i => F i ∨ G i) w w' := by
  obtain ⟨w1, q, hw1, hq⟩ : ∃ w1 q, w.alloc (.cells #[.int .i64 3, .int .i64 a, .int .i64 t, .slice x1 n1 c1, .slice x2 n2 c2, .slice x3 n3 c3, .int .i64 m, .slice x4 n4 c4, .int .i64 bl] 41) = w1 ∧ w.heap.size = q := ⟨_, _, rfl, rfl⟩
  have hb1 : Below w.heap.size w w1 := by rw [← hw1]; exact (Below.refl _ _).alloc (Nat.le_refl _) _
  have hh1 : w1.heap[q]? = some (.cells #[.int .i64 3, .int .i64 a, .int .i64 t, .slice x1 n1 c1, .slice x2 n2 c2, .slice x3 n3 c3, .int .i64 m, .slice x4 n4 c4, .int .i64 bl] 41 (0, 0)) := by rw [← hw1, ← hq]; exact heap_new _ _
  have hql : q < w1.heap.size := (Array.getElem?_eq_some_iff.1 hh1).1
  have q0 : w1.cell? ⟨q, 0, none⟩ = some (.int .i64 3) := (Lib.cell_of_heap hh1 _).trans rfl
  have q4 : w1.cell? ⟨q, 4, none⟩ = some (.slice x2 n2 c2) := (Lib.cell_of_heap hh1 _).trans rfl
  have hB0 : w0.heap.size ≤ w.heap.size := hw.size
  have HS1 := Lib.hid (h.below hb1)
  have hqF : ¬ F q := fun hf => by have := h.hb.lt q hf; omega
  have hqG : ¬ G q := fun hf => by have := h.hq.lt q hf; omega
  have HBW1 := Lib.hid (hw.trans (hb1.mono hB0))
  have HA := Lib.hid (show ∀ W, Below w0.heap.size w0 W → BsA W x2 tx from fun W hW => hA.below hW)
  have HN := Lib.hid hn
  have HNIL := Lib.hid hnil
  have HC1 : Hid (Chg (fun i => F i ∨ G i) w w1) := Lib.hid (Chg.of_below hb1)
  have hww1 : w.heap.size ≤ w1.heap.size := hb1.size
  have HSZ := Lib.hid hsz
  obtain ⟨pa, pc, ms, z1, zf1, hzo, hzm⟩ := HS1.out.hq.msgs
  have HMD := Lib.hid (fun (W : World) (hW : Below w1.heap.size w1 W) => made_any pa p.msgs.length pc p.msgs tx W ((MsgsA.ofOwn hzo hzm rfl).below hW) rfl (by have := hsz.1.2.1; omega) (fun x hx => by have := hsz.2.1 x hx; omega) x2 n2 c2 (HA.out W (HBW1.out.trans (hW.mono HBW1.out.size))) hn (by omega))
  obtain ⟨l1, hl1⟩ : ∃ n, p.msgs.length = n := ⟨_, rfl⟩
  have HL1 := Lib.hid hl1
  have hlen : l1 ≤ N := by rw [← hl1]; exact hsz.1.2.1
  rw [hl1] at z1 HMD
  have hBW1 : w0.heap.size ≤ w1.heap.size := HBW1.out.size
  have hzl := HS1.out.hq.here.2.1
  have HW1 := Lib.hid hw1
  have HQ := Lib.hid hq
  obtain ⟨i0, hi, hz0, hz1, hz2⟩ := info_parts info_slu8
  clear h hb1 hh1 hw1 hq hA hn hnil hsz hl1 hzo hzm hw zf1
  go_enter Tryd.func11, Tryd.ntmps11
  go_upto_region 1 with fail
  rw [HW1.out, HQ.out]
  clear HW1 HQ
  go_upto_region 19 with fail
  go_cut [10] (fun s wx => ∃ k : Nat, IsFirst p.msgs tx k ∧ s = .int .i64 (k : Int) ∧ Below w1.heap.size w1 wx)
  case first =>
    go_region_with (go_at_call 39; refine (HMD.out _ (by exact Below.drew (Below.refl _ _))).mono ?_; rintro e w2 ⟨⟨k, hk, rfl⟩, hb2⟩; have hbk : Below w1.heap.size w1 w2 := Below.trans (Below.drew (Below.refl _ _)) hb2; have HK := Lib.hid hk; clear hk)
    all_goals (go_wp2_with fail; go_meet; exact ⟨k, HK.out, rfl, by assumption⟩)
  case rest =>
    obtain ⟨k, hk, rfl, hb2⟩ := hcut
    obtain ⟨w2, hw2⟩ : ∃ z : World, wc = z := ⟨_, rfl⟩
    rw [hw2] at hb2 ⊢
    clear hw2
    have HK := Lib.hid hk
    have hkl : k ≤ l1 := by have := hk.1; rw [HL1.out] at this; exact this
    have HS2 := Lib.hid (HS1.out.below hb2)
    have HBW2 := Lib.hid (HBW1.out.trans (hb2.mono hBW1))
    have HC2 := Lib.hid (HC1.out.trans (Chg.of_below (F := fun _ => False) hb2) fun _ h => h.elim)
    have hww2 : w.heap.size ≤ w2.heap.size := HC2.out.size
    have q42 : w2.cell? ⟨q, 4, none⟩ = some (.slice x2 n2 c2) := (hb2.cell (p := ⟨q, 4, none⟩) hql).trans q4
    have z2 : w2.cell? ⟨z, 1, none⟩ = some (.slice pa l1 pc) := (hb2.cell (p := ⟨z, 1, none⟩) hzl).trans z1
    have hql2 : q < w2.heap.size := by have := hb2.size; omega
    have hzl2 : z < w2.heap.size := by have := hb2.size; omega
    have hBW2 : w0.heap.size ≤ w2.heap.size := HBW2.out.size
    clear hk hb2 HMD q0 q4 z1
    obtain ⟨p2, hp2⟩ : ∃ p2, (if k < l1 then p else { p with msgs := p.msgs ++ [tx] }) = p2 := ⟨_, rfl⟩
    have HP2 := Lib.hid hp2
    have HSZ2 : Hid (Sz (N + K) p2) := Lib.hid (by
      rw [← hp2]
      split
      · exact HSZ.out.mono (by omega)
      · exact HSZ.out.msg (by rw [HN.out]; exact hK))
    clear hp2
    obtain ⟨kb, hkb⟩ : ∃ kb, ((k : Int) == (l1 : Int)) = kb := ⟨_, rfl⟩
    go_upto_if 105 with fail
    have HKB := Lib.hid hkb
    clear hkb
    go_cut [] (fun wx => Adv G 28 z w2 p2 wx)
    case first =>
      cases kb
      · have hlt : k < l1 := by have := HKB.out; rw [beq_eq_false_iff_ne] at this; omega
        go_wp2_with fail
        go_meet
        rw [← HP2.out, if_pos hlt]
        exact Adv.same HS2.out.hq (Below.refl _ _)
      · obtain rfl : k = l1 := by have := HKB.out; rw [beq_iff_eq] at this; omega
        obtain ⟨vc, vm, vr, vs, ms2, rs, ss, hBB⟩ := HS2.out.hq
        obtain ⟨ca, cc, ma, mc, ra, rc, sa, sc, rfl, rfl, rfl, rfl⟩ := hBB.sl
        have y2 := hBB.cell.2.1
        rw [z2] at y2
        injection y2 with y2
        injection y2 with e1 en e2
        subst e1 e2
        clear en
        have HBB := Lib.hid hBB
        have hyo := hBB.msgs
        rw [HL1.out] at hyo
        have HYO := Lib.hid hyo
        have HCP := Lib.hid (fun (W : World) (hW : Below w2.heap.size w2 W) => mcopy x2 c2 n2 tx W (HA.out W (HBW2.out.trans (hW.mono hBW2))) HN.out HNIL.out (by omega))
        obtain ⟨_, _, zcs, zh⟩ := HS2.out.hq.here
        have HZH := Lib.hid zh
        clear hyo zh hBB
        go_upto_region 21 with fail
        go_region_law (first
          | (refine mstep_append_any rfl (.tmp 110) (.tmp 114) 24 rfl 0 35 i0 (.slice none 0 0) 1 24 Tryd.underlying24 hi hz0 hz1 hz2 rfl (by decide) (.slice pa k pc) k ms2 (by simp [Act.eval]) hmsD (.slice (some ⟨w5.heap.size, 0, none⟩) 1 1) 1 [.slice a5 n2 c5] (by simp [Act.eval]) hsrcD (by unfold maxLen; omega) (by omega) (Nat.zero_le _) ?_; intro v9 w9 hown9 hgrow9 hmv9; obtain ⟨a9, c9, rfl⟩ := own_slice_n hown9; have hh9 := block_grown HZ5.out hmsD (by decide) hgrow9; have p19 : w9.cell? ⟨z, 1, none⟩ = some (.slice pa k pc) := HZC.out w9 hh9; have f19 := Lib.frozen_of_heap hh9 1; have hg9 := Lib.hid hgrow9; have ho9 := Lib.hid hown9; have hm9 := Lib.hid hmv9; clear hgrow9 hown9 hmv9 hh9)
          | (go_simp; go_at_call 15; refine (HCP.out _ (by exact Below.drew (Below.refl _ _))).mono ?_; rintro e w5 ⟨v5, rfl, ho5, hb5d⟩; have hb5 : Below w2.heap.size w2 w5 := Below.trans (Below.drew (Below.refl _ _)) hb5d; rw [HN.out] at ho5; obtain ⟨a5, c5, rfl⟩ := own_slice_n ho5; have HO5 := Lib.hid ho5; have hmsD : (w5.alloc (.cells #[.slice a5 n2 c5] 35)).ownsRow 0 35 1 (.slice pa k pc) k ms2 := (ownsRow_old HYO.out hb5).alloc _; have hsrcD : SrcA (w5.alloc (.cells #[.slice a5 n2 c5] 35)) (.slice (some ⟨w5.heap.size, 0, none⟩) 1 1) 1 1 [.slice a5 n2 c5] := ⟨_, _, rfl, rfl, one_cell _ rfl, (fun e => by cases e), fun ad e => by cases e; exact mcells_new _ [_] _⟩; have HZ5 : Hid ((w5.alloc (.cells #[.slice a5 n2 c5] 35)).heap[z]? = some (.cells zcs 28 (0, 0))) := Lib.hid (((Below.refl w5.heap.size w5).alloc (Nat.le_refl _) _ |>.block z (Nat.lt_of_lt_of_le hzl2 hb5.size)).trans ((hb5.block z hzl2).trans HZH.out)); have HZC : Hid (∀ W : World, W.heap[z]? = some (.cells zcs 28 (0, 0)) → W.cell? ⟨z, 1, none⟩ = some (.slice pa k pc)) := Lib.hid (fun W hW => by rw [Lib.cell_of_heap hW, ← Lib.cell_of_heap HZH.out]; exact z2); have d15 : w5.cell? ⟨z, 1, none⟩ = some (.slice pa k pc) := (hb5.cell (p := ⟨z, 1, none⟩) hzl2).trans z2; have dq5 : w5.cell? ⟨q, 4, none⟩ = some (.slice x2 n2 c2) := (hb5.cell (p := ⟨q, 4, none⟩) hql2).trans q42; have HBL5 := Lib.hid hb5; have hz5l : z < w5.heap.size := Nat.lt_of_lt_of_le hzl2 hb5.size; have hq5l : q < w5.heap.size := Nat.lt_of_lt_of_le hql2 hb5.size; clear ho5 hb5d hb5))
        all_goals
          go_wp2_with fail
          go_meet
          rw [← HP2.out, if_neg (Nat.lt_irrefl _)]
          exact (BAt.putMsg tags_p HBB.out (Chg.of_below (F := fun _ => False) (HBL5.out.trans (((Below.refl w5.heap.size w5).alloc (Nat.le_refl _) (.cells #[.slice a5 n2 c5] 35)).mono HBL5.out.size))) (fun _ _ => id) (by rw [HN.out]; exact HO5.out.alloc _) (by rw [HL1.out]; exact hg9.out) (by rw [HL1.out]) ho9.out (by rw [HL1.out]; exact hm9.out)).adv (Below.refl _ _) fun _ h => h.elim
    case rest =>
      have had := hcut
      obtain ⟨w3, hw3⟩ : ∃ z : World, wc = z := ⟨_, rfl⟩
      rw [hw3] at had ⊢
      clear hw3 hcut
      obtain ⟨⟨G', hS3, -⟩, hb3⟩ := HS2.out.advQ hBW2 had
      have q43 : w3.cell? ⟨q, 4, none⟩ = some (.slice x2 n2 c2) := (had.cell hql2 hqG).trans q42
      have hs23 := had.chg.size
      have HS3 := Lib.hid hS3
      have HC3 := Lib.hid (HC2.out.trans had.chg fun i hi => Or.inl (Or.inr hi))
      have HBW3 := Lib.hid (HBW2.out.trans hb3)
      have hBW3 : w0.heap.size ≤ w3.heap.size := HBW3.out.size
      have HCP := Lib.hid (mcopy x2 c2 n2 tx w3 (HA.out w3 HBW3.out) HN.out HNIL.out (by omega))
      clear had hS3 hb3 q42 z2
      go_wp2_with fail
      refine HCP.out.mono ?_
      rintro e w4 ⟨v4, rfl, ho4, hb4⟩
      rw [HN.out] at ho4
      obtain ⟨a4, c4', rfl⟩ := own_slice_n ho4
      have HO4 := Lib.hid ho4
      have HS4 := Lib.hid (HS3.out.below hb4)
      have HC4 := Lib.hid (HC3.out.trans (Chg.of_below (F := fun _ => False) hb4) fun _ h => h.elim)
      have hww3 : w.heap.size ≤ w3.heap.size := HC3.out.size
      have HBW4 := Lib.hid (HBW3.out.trans (hb4.mono hBW3))
      have hBW4 : w0.heap.size ≤ w4.heap.size := HBW4.out.size
      have hs34 := hb4.size
      have HMS := Lib.hid (msg_any F b w4 p HS4.out.hb a4 n2 c4' tx (BsA.ofOwn ho4).1 HN.out (by omega) (by rw [HL1.out]; omega))
      clear ho4 hb4 HCP q43
      go_wp2_with fail
      refine HMS.out.mono ?_
      rintro e w5 ⟨k', hk', rfl, had5⟩
      obtain rfl := hk'.uniq HK.out
      rw [HL1.out, HP2.out] at had5
      obtain ⟨⟨F', hS5, hF5⟩, hb5⟩ := HS4.out.advB hBW4 had5
      have hFl := HS3.out.hb.lt
      have hGl := HS3.out.hq.lt
      have hO5 := had5.chg.row HO4.out fun g hg hf => by have h1 := (HO4.out.lt g hg).1; have h2 := hFl g hf; omega
      have hT5 : Turns1 a4 n2 c4' .u8 5 w5 := Turns1.ofOwn hO5 fun j hj => by
        obtain ⟨y, hy⟩ := get_of_lt (l := tx) (k := j) (by rw [HN.out]; exact hj)
        exact ⟨_, bcells_get hy⟩
      have HOV := Lib.hid (over_any a4 n2 c4' w5 hT5 (by omega))
      have hE : ∀ i, (Value.ownBlock (.slice a4 n2 c4')) = some i → (¬ F' i ∧ ¬ G' i) ∧ w0.heap.size ≤ i := fun i hi => by
        have h1 := HO4.out.lt i hi
        refine ⟨⟨fun hf => ?_, fun hg => ?_⟩, by omega⟩
        · rcases hF5 i hf with h2 | h2
          · have := hFl i h2; omega
          · omega
        · have := hGl i hg; omega
      have HE := Lib.hid hE
      have HS5 := Lib.hid hS5
      have HC5 := Lib.hid (HC4.out.trans had5.chg fun i hi => Or.inl (Or.inl hi))
      have HEW := Lib.hid (show ∀ i, (Value.ownBlock (.slice a4 n2 c4')) = some i → w.heap.size ≤ i from fun i hi => by have := (HO4.out.lt i hi).1; omega)
      have HBW5 := Lib.hid (HBW4.out.trans hb5)
      have hBW5 : w0.heap.size ≤ w5.heap.size := HBW5.out.size
      clear hk' had5 hS5 hF5 hb5 hFl hGl hO5 hT5 hE
      go_wp2_with fail
      refine HOV.out.mono ?_
      rintro e w6 ⟨rfl, hc6⟩
      obtain ⟨hS6, hb6⟩ := HS5.out.other hBW5 hc6 (fun i hi => (HE.out i hi).1) fun i hi => (HE.out i hi).2
      have HS6 := Lib.hid hS6
      have HC6 := Lib.hid (HC5.out.trans hc6 fun i hi => Or.inr (HEW.out i hi))
      have HB6 := Lib.hid (HBW5.out.trans hb6)
      clear hS6 hb6 hc6
      go_wp2_with fail
      go_ret
      exact ⟨rfl, ⟨⟨_, _, _, HS6.out, HSZ2.out⟩, HB6.out⟩, HC6.out⟩
end Go.Proofs.YtaijdpckkobofaaDoor
