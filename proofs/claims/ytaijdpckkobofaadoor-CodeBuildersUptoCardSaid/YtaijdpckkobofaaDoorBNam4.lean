/- The law's names: Route. -/
import Derived.Test.YtaijdpckkobofaaDoorBNam0
namespace Go.Proofs.YtaijdpckkobofaaDoor
open Go.RowKit
set_option linter.unusedVariables false

theorem Bd.routes {F : Nat → Prop} {T : TypeId} {b : Nat} {w : World} {p : PProg} (h : Bd F T b w p) : ∃ a c rs, w.cell? ⟨b, 2, none⟩ = some (.slice a p.routes.length c) ∧ w.frozen? ⟨b, 2, none⟩ = false ∧ w.ownsRow 0 36 1 (.slice a p.routes.length c) p.routes.length rs ∧ OwnRs 0 w rs p.routes := by
  obtain ⟨vc, vm, vr, vs, ms, rs, ss, h⟩ := h
  obtain ⟨_, _, _, _, ra, rc, _, _, _, _, rfl, _⟩ := h.sl
  exact ⟨ra, rc, rs, h.cell.2.2.1, Lib.frozen_of_heap h.here 2, h.routes, h.route⟩

set_option maxRecDepth 100000 in
set_option maxHeartbeats 8000000 in
theorem names_k4 (b z N K : Nat) (w0 w : World) (p : PProg) (F G : Nat → Prop) (hw : Below w0.heap.size w0 w) (h : St2 w0.heap.size b z w p p F G) (hsz : Sz N p) (hN : N ≤ 4194304) (a t m bl : Int) (x1 x2 x3 x4 : Option Addr) (n1 n2 n3 n4 c1 c2 c3 c4 : Nat) (tx : List PStop) (hA : StopsA w0 x3 tx) (hn : tx.length = n3) (hnil : x3 = none → c3 = 0) (hK : n3 + 1 ≤ K) (hNK : N + K ≤ 4194304) :
    Calls Tryd.prog 12 #[.pointer (some ⟨b, 0, none⟩), .pointer (some ⟨z, 0, none⟩), .agg #[.int .i64 4, .int .i64 a, .int .i64 t, .slice x1 n1 c1, .slice x2 n2 c2, .slice x3 n3 c3, .int .i64 m, .slice x4 n4 c4, .int .i64 bl]] w fun e w' => e = .returned (.bool true) ∧ Both w0 b z (N + K) w' ∧ Chg (fun i => F i ∨ G i) w w' := by
  obtain ⟨w1, q, hw1, hq⟩ : ∃ w1 q, w.alloc (.cells #[.int .i64 4, .int .i64 a, .int .i64 t, .slice x1 n1 c1, .slice x2 n2 c2, .slice x3 n3 c3, .int .i64 m, .slice x4 n4 c4, .int .i64 bl] 41) = w1 ∧ w.heap.size = q := ⟨_, _, rfl, rfl⟩
  have hb1 : Below w.heap.size w w1 := by rw [← hw1]; exact (Below.refl _ _).alloc (Nat.le_refl _) _
  have hh1 : w1.heap[q]? = some (.cells #[.int .i64 4, .int .i64 a, .int .i64 t, .slice x1 n1 c1, .slice x2 n2 c2, .slice x3 n3 c3, .int .i64 m, .slice x4 n4 c4, .int .i64 bl] 41 (0, 0)) := by rw [← hw1, ← hq]; exact heap_new _ _
  have hql : q < w1.heap.size := (Array.getElem?_eq_some_iff.1 hh1).1
  have q0 : w1.cell? ⟨q, 0, none⟩ = some (.int .i64 4) := (Lib.cell_of_heap hh1 _).trans rfl
  have q5 : w1.cell? ⟨q, 5, none⟩ = some (.slice x3 n3 c3) := (Lib.cell_of_heap hh1 _).trans rfl
  have hB0 : w0.heap.size ≤ w.heap.size := hw.size
  have HS1 := Lib.hid (h.below hb1)
  have hqF : ¬ F q := fun hf => by have := h.hb.lt q hf; omega
  have hqG : ¬ G q := fun hf => by have := h.hq.lt q hf; omega
  have HBW1 := Lib.hid (hw.trans (hb1.mono hB0))
  have HA := Lib.hid (show ∀ W, Below w0.heap.size w0 W → StopsA W x3 tx from fun W hW => hA.below hW)
  have HN := Lib.hid hn
  have HNIL := Lib.hid hnil
  have HC1 : Hid (Chg (fun i => F i ∨ G i) w w1) := Lib.hid (Chg.of_below hb1)
  have HSZ := Lib.hid hsz
  obtain ⟨pa, pc, rs1, z1, zf1, hzo, hzm⟩ := HS1.out.hq.routes
  have HRA := Lib.hid (RoutesA.ofOwn hzo hzm rfl)
  obtain ⟨l1, hl1⟩ : ∃ n, p.routes.length = n := ⟨_, rfl⟩
  have HL1 := Lib.hid hl1
  have hlen : l1 ≤ N := by rw [← hl1]; exact hsz.1.2.2.1
  rw [hl1] at z1
  have hBW1 : w0.heap.size ≤ w1.heap.size := HBW1.out.size
  have hzl := HS1.out.hq.here.2.1
  have HW1 := Lib.hid hw1
  have HQ := Lib.hid hq
  obtain ⟨i0, hi, hz0, hz1, hz2⟩ := info_parts info_slstop
  obtain ⟨i1, hj, hy0, hy1, hy2⟩ := info_parts info_stop
  clear h hb1 hh1 hw1 hq hA hn hnil hsz hl1 hzo hzm hw zf1
  go_enter Tryd.func12, Tryd.ntmps12
  go_upto_region 1 with fail
  rw [HW1.out, HQ.out]
  clear HW1 HQ
  go_upto_block 1 with fail
  go_cut [7] (fun s wx => ∃ k : Nat, IsFirst p.routes tx k ∧ s = .int .i64 (k : Int) ∧ Below w1.heap.size w1 wx)
  case first =>
    go_wp2_with fail
    go_loopw [7] (fun ix wr => ∃ k : Nat, k ≤ l1 ∧ ix = .int .i64 k ∧ (∀ j, j < k → p.routes[j]? ≠ some tx) ∧ Below w1.heap.size w1 wr) (fun ix _ => l1 - (intOf ix).toNat)
    case atStart => exact ⟨0, by omega, rfl, fun j hj => by omega, Below.refl _ _⟩
    case round =>
      obtain ⟨wo, hwo⟩ : ∃ z : World, wr = z := ⟨_, rfl⟩
      obtain ⟨k, hk, rfl, hne, hbel⟩ := hrel
      rw [hwo] at hbel ⊢
      clear hwo
      have HNE := Lib.hid hne
      have HB := Lib.hid hbel
      have d2 : wo.cell? ⟨z, 2, none⟩ = some (.slice pa l1 pc) := (hbel.cell (p := ⟨z, 2, none⟩) hzl).trans z1
      have d5 : wo.cell? ⟨q, 5, none⟩ = some (.slice x3 n3 c3) := (hbel.cell (p := ⟨q, 5, none⟩) hql).trans q5
      clear hne
      by_cases hlt : k < l1
      · obtain ⟨x, hx⟩ : ∃ x, p.routes[k]? = some x := ⟨_, List.getElem?_eq_getElem (by rw [HL1.out]; exact hlt)⟩
        obtain ⟨p1, q1', ⟨g1, o1, e1, _, k1⟩, hA1, _⟩ := (HRA.out.below hbel) k x hx
        have hxl := HSZ.out.2.2.1 x (List.mem_of_getElem? hx)
        obtain ⟨mm, hm⟩ : ∃ mm, x.length = mm := ⟨_, rfl⟩
        have d1 : wo.cell? ⟨g1, o1 + k, none⟩ = some (.slice p1 mm q1') := by rw [← hm]; simpa using k1 0 _ rfl
        have HX := Lib.hid hx
        obtain ⟨rv, hrv⟩ := dec_ex (x = tx)
        have HRV := Lib.hid hrv
        have HC := Lib.hid (fun (W : World) (hW : Below wo.heap.size wo W) => rsameStops p1 x3 q1' c3 mm n3 x tx W (hA1.below hW) (HA.out W (HBW1.out.trans ((hbel.trans (hW.mono hbel.size)).mono hBW1))) hm HN.out (by omega) (by omega) rv hrv)
        subst e1
        clear hx hbel hrv k1 hA1 hm hxl
        obtain ⟨nrv, hnrv⟩ : ∃ nrv, (!rv) = nrv := ⟨_, rfl⟩
        go_upto_region 4 with fail
        go_cut [36] (fun s wx => s = .bool nrv ∧ Below wo.heap.size wo wx)
        case first =>
          go_region_with (go_at_call 41; refine (HC.out _ (by exact Below.drew (Below.refl _ _))).mono ?_; rintro e w2 ⟨rfl, hb2⟩; have hb3 : Below wo.heap.size wo w2 := Below.trans (Below.drew (Below.refl _ _)) hb2)
          all_goals (go_wp2_with fail; go_meet; exact ⟨by first | rfl | (rw [hnrv]), by assumption⟩)
        case rest =>
          obtain ⟨rfl, hb2⟩ := hcut
          have HB2 := Lib.hid (HB.out.trans (hb2.mono HB.out.size))
          clear hb2
          cases rv
          · obtain rfl : true = nrv := hnrv
            have hxy : ¬ x = tx := fun h => by have := HRV.out.2 h; cases this
            go_wp2_with fail
            go_roundw
            case rel => exact ⟨k + 1, by omega, by go_num, next_ne HNE.out HX.out hxy, HB2.out⟩
            case measure => simp [intOf]; omega
          · obtain rfl : false = nrv := hnrv
            have hxy : x = tx := HRV.out.1 rfl
            go_wp2_with fail
            go_meet
            exact ⟨k, ⟨by rw [HL1.out]; omega, HNE.out, fun _ => by rw [HX.out, hxy]⟩, rfl, HB2.out⟩
      · go_upto_region 4 with fail
        go_cut [36] (fun s wx => s = .bool false ∧ Below wo.heap.size wo wx)
        case first =>
          go_region
          all_goals (go_wp2_with fail; go_meet; exact ⟨rfl, by first | exact Below.drew (Below.refl _ _) | exact below_drewN (Below.refl _ _) _⟩)
        case rest =>
          obtain ⟨rfl, hb2⟩ := hcut
          have HB2 := Lib.hid (HB.out.trans (hb2.mono HB.out.size))
          clear hb2 hbel
          go_wp2_with fail
          go_meet
          exact ⟨k, ⟨by rw [HL1.out]; omega, HNE.out, fun h => by rw [HL1.out] at h; omega⟩, rfl, HB2.out⟩
  case rest =>
    obtain ⟨k, hk, rfl, hb2⟩ := hcut
    obtain ⟨w2, hw2⟩ : ∃ z : World, wc = z := ⟨_, rfl⟩
    rw [hw2] at hb2 ⊢
    clear hw2
    have HK := Lib.hid hk
    have hkl : k ≤ l1 := by have := hk.1; rw [HL1.out] at this; exact this
    have HS2 := Lib.hid (HS1.out.below hb2)
    have HBW2 := Lib.hid (HBW1.out.trans (hb2.mono hBW1))
    have HC2 := Lib.hid (HC1.out.trans (Chg.of_below (F := fun _ => False) hb2) fun _ h => h.elim)
    have q52 : w2.cell? ⟨q, 5, none⟩ = some (.slice x3 n3 c3) := (hb2.cell (p := ⟨q, 5, none⟩) hql).trans q5
    have z2 : w2.cell? ⟨z, 2, none⟩ = some (.slice pa l1 pc) := (hb2.cell (p := ⟨z, 2, none⟩) hzl).trans z1
    have hql2 : q < w2.heap.size := by have := hb2.size; omega
    have hzl2 : z < w2.heap.size := by have := hb2.size; omega
    have hBW2 : w0.heap.size ≤ w2.heap.size := HBW2.out.size
    clear hk hb2 q0 q5 z1 HRA
    obtain ⟨p2, hp2⟩ : ∃ p2, (if k < l1 then p else { p with routes := p.routes ++ [tx] }) = p2 := ⟨_, rfl⟩
    have HP2 := Lib.hid hp2
    have HSZ2 : Hid (Sz (N + K) p2) := Lib.hid (by
      rw [← hp2]
      split
      · exact HSZ.out.mono (by omega)
      · exact HSZ.out.route (by rw [HN.out]; exact hK))
    clear hp2
    obtain ⟨kb, hkb⟩ : ∃ kb, ((k : Int) == (l1 : Int)) = kb := ⟨_, rfl⟩
    go_upto_if 45 with fail
    have HKB := Lib.hid hkb
    clear hkb
    go_cut [] (fun wx => Adv G 28 z w2 p2 wx)
    case first =>
      cases kb
      · have hlt : k < l1 := by have := HKB.out; rw [beq_eq_false_iff_ne] at this; omega
        go_wp2_with fail
        go_meet
        rw [← HP2.out, if_pos hlt]
        exact Adv.same HS2.out.hq (Below.refl _ _)
      · obtain rfl : k = l1 := by have := HKB.out; rw [beq_iff_eq] at this; omega
        obtain ⟨vc, vm, vr, vs, ms, rs2, ss, hBB⟩ := HS2.out.hq
        obtain ⟨ca, cc, ma, mc, ra, rc, sa, sc, rfl, rfl, rfl, rfl⟩ := hBB.sl
        have y2 := hBB.cell.2.2.1
        rw [z2] at y2
        injection y2 with y2
        injection y2 with e1 en e2
        subst e1 e2
        clear en
        have HBB := Lib.hid hBB
        have hyo := hBB.routes
        rw [HL1.out] at hyo
        have HYO := Lib.hid hyo
        obtain ⟨_, _, zcs, zh⟩ := HS2.out.hq.here
        have HZH := Lib.hid zh
        have hbD : Below w2.heap.size w2 (w2.alloc (.cells #[] 64)).drew := ((Below.refl _ _).alloc (Nat.le_refl _) _).drew
        have hlitD : (w2.alloc (.cells #[] 64)).drew.ownsRow w2.heap.size 64 3 (.slice (some ⟨w2.heap.size, 0, none⟩) 0 0) 0 [] := mlit w2 64 3 w2.heap.size (Nat.le_refl _)
        have HSRC : Hid (SrcA (w2.alloc (.cells #[] 64)).drew (.slice x3 n3 c3) n3 3 (stopsCells tx)) := Lib.hid ((SrcA.stops (HA.out w2 HBW2.out) HN.out HNIL.out).below hbD)
        have hszD : w2.heap.size ≤ (w2.alloc (.cells #[] 64)).drew.heap.size := hbD.size
        clear hyo zh hBB
        go_upto_region 7 with fail
        go_region_law (first
          | (refine mstep_append_any rfl (.tmp 51) (.tmp 53) 36 rfl w2.heap.size 64 i1 (.agg #[.string ⟨#[]⟩, .int .i64 0, .int .i64 0]) 3 32 Tryd.underlying36 hj hy0 hy1 hy2 rfl (by decide) (.slice (some ⟨w2.heap.size, 0, none⟩) 0 0) 0 [] (by simp [Act.eval]) hlitD (.slice x3 n3 c3) n3 (stopsCells tx) (by simp [Act.eval]) HSRC.out (by unfold maxLen; omega) (by omega) hszD ?_; intro v5 w5 ho5 hg5 hm5; have hb5 : Below w2.heap.size w2 w5 := mbelow_grow hbD hszD hlitD hg5; have HO5 := Lib.hid (mown_cast ho5 (Nat.zero_add n3) (List.nil_append (stopsCells tx))); obtain ⟨a5, c5, rfl⟩ := own_slice_n HO5.out; have hmsD : (w5.alloc (.cells #[.slice a5 n3 c5] 36)).ownsRow 0 36 1 (.slice pa k pc) k rs2 := (ownsRow_old HYO.out hb5).alloc _; have hsrcD : SrcA (w5.alloc (.cells #[.slice a5 n3 c5] 36)) (.slice (some ⟨w5.heap.size, 0, none⟩) 1 1) 1 1 [.slice a5 n3 c5] := ⟨_, _, rfl, rfl, one_cell _ rfl, (fun e => by cases e), fun ad e => by cases e; exact mcells_new _ [_] _⟩; have HZ5 : Hid ((w5.alloc (.cells #[.slice a5 n3 c5] 36)).heap[z]? = some (.cells zcs 28 (0, 0))) := Lib.hid (((Below.refl w5.heap.size w5).alloc (Nat.le_refl _) _ |>.block z (Nat.lt_of_lt_of_le hzl2 hb5.size)).trans ((hb5.block z hzl2).trans HZH.out)); have HZC : Hid (∀ W : World, W.heap[z]? = some (.cells zcs 28 (0, 0)) → W.cell? ⟨z, 2, none⟩ = some (.slice pa k pc)) := Lib.hid (fun W hW => by rw [Lib.cell_of_heap hW, ← Lib.cell_of_heap HZH.out]; exact z2); have d25 : w5.cell? ⟨z, 2, none⟩ = some (.slice pa k pc) := (hb5.cell (p := ⟨z, 2, none⟩) hzl2).trans z2; have HBL5 := Lib.hid hb5; have hz5l : z < w5.heap.size := Nat.lt_of_lt_of_le hzl2 hb5.size; clear ho5 hg5 hm5 hb5)
          | (refine mstep_append_any rfl (.tmp 50) (.tmp 55) 25 rfl 0 36 i0 (.slice none 0 0) 1 24 Tryd.underlying25 hi hz0 hz1 hz2 rfl (by decide) (.slice pa k pc) k rs2 (by simp [Act.eval]) hmsD (.slice (some ⟨w5.heap.size, 0, none⟩) 1 1) 1 [.slice a5 n3 c5] (by simp [Act.eval]) hsrcD (by unfold maxLen; omega) (by omega) (Nat.zero_le _) ?_; intro v9 w9 hown9 hgrow9 hmv9; obtain ⟨a9, c9, rfl⟩ := own_slice_n hown9; have hh9 := block_grown HZ5.out hmsD (by decide) hgrow9; have p19 : w9.cell? ⟨z, 2, none⟩ = some (.slice pa k pc) := HZC.out w9 hh9; have f19 := Lib.frozen_of_heap hh9 2; have hg9 := Lib.hid hgrow9; have ho9 := Lib.hid hown9; have hm9 := Lib.hid hmv9; clear hgrow9 hown9 hmv9 hh9))
        all_goals
          go_wp2_with fail
          go_meet
          rw [← HP2.out, if_neg (Nat.lt_irrefl _)]
          exact (BAt.putRoute tags_p HBB.out (Chg.of_below (F := fun _ => False) (HBL5.out.trans (((Below.refl w5.heap.size w5).alloc (Nat.le_refl _) (.cells #[.slice a5 n3 c5] 36)).mono HBL5.out.size))) (fun _ _ => id) (by rw [HN.out]; exact HO5.out.alloc _) (by rw [HL1.out]; exact hg9.out) (by rw [HL1.out]) ho9.out (by rw [HL1.out]; exact hm9.out)).adv (Below.refl _ _) fun _ h => h.elim
    case rest =>
      have had := hcut
      obtain ⟨w3, hw3⟩ : ∃ z : World, wc = z := ⟨_, rfl⟩
      rw [hw3] at had ⊢
      clear hw3 hcut
      obtain ⟨⟨G', hS3, -⟩, hb3⟩ := HS2.out.advQ hBW2 had
      have q53 : w3.cell? ⟨q, 5, none⟩ = some (.slice x3 n3 c3) := (had.cell hql2 hqG).trans q52
      have hql3 : q < w3.heap.size := Nat.lt_of_lt_of_le hql2 had.chg.size
      have HS3 := Lib.hid hS3
      have HC3 := Lib.hid (HC2.out.trans had.chg fun i hi => Or.inl (Or.inr hi))
      have hww3 : w.heap.size ≤ w3.heap.size := HC3.out.size
      have HBW3 := Lib.hid (HBW2.out.trans hb3)
      have hBW3 : w0.heap.size ≤ w3.heap.size := HBW3.out.size
      have hlit3 := mlit w3 64 3 w3.heap.size (Nat.le_refl _)
      have hb30 : Below w3.heap.size w3 (w3.alloc (.cells #[] 64)) := (Below.refl _ _).alloc (Nat.le_refl _) _
      have HSRC3 := Lib.hid (SrcA.stops (HA.out w3 HBW3.out) HN.out HNIL.out)
      clear had hS3 hb3 q52 z2
      go_upto_region 9 with (first | (at_builtin; refine wpList_append_any rfl (.tmp 59) (.tmp 61) 36 rfl w3.heap.size 64 i1 (.agg #[.string ⟨#[]⟩, .int .i64 0, .int .i64 0]) 3 32 Tryd.underlying36 hj hy0 hy1 hy2 rfl (by decide) _ 0 [] rfl hlit3 _ n3 (stopsCells tx) rfl (HSRC3.out.below hb30) (by unfold maxLen; omega) (by omega) (by rw [World.size_alloc]; omega) ?_; intro v4 w4 ho4 hg4 hm4; have hb4 := mbelow_grow hb30 (by rw [World.size_alloc]; omega) hlit3 hg4; have HO4 := Lib.hid (mown_cast ho4 (Nat.zero_add n3) (List.nil_append (stopsCells tx))); obtain ⟨a4, c4', rfl⟩ := own_slice_n HO4.out; have HB4 := Lib.hid hb4; clear ho4 hg4 hm4 hb4))
      clear hlit3 hb30 HSRC3
      have HS4 := Lib.hid (HS3.out.below HB4.out)
      have HBW4 := Lib.hid (HBW3.out.trans (HB4.out.mono hBW3))
      have hBW4 : w0.heap.size ≤ w4.heap.size := HBW4.out.size
      have hs34 := HB4.out.size
      have HC4 := Lib.hid (HC3.out.trans (Chg.of_below (F := fun _ => False) HB4.out) fun _ h => h.elim)
      have HMS := Lib.hid (broute_any F b w4 p HS4.out.hb a4 n3 c4' tx (StopsA.ofOwn HO4.out HN.out) HN.out (by omega) (by rw [HL1.out]; omega) (fun x hx => by have := HSZ.out.2.2.1 x hx; omega))
      go_wp2_with fail
      refine HMS.out.mono ?_
      rintro e w5 ⟨k', hk', rfl, had5⟩
      obtain rfl := hk'.uniq HK.out
      rw [HL1.out, HP2.out] at had5
      obtain ⟨⟨F', hS5, hF5⟩, hb5⟩ := HS4.out.advB hBW4 had5
      have hFl := HS3.out.hb.lt
      have hGl := HS3.out.hq.lt
      have hO5 := had5.chg.row HO4.out fun g hg hf => by have h1 := (HO4.out.lt g hg).1; have h2 := hFl g hf; omega
      have hT5 : Turns a4 n3 c4' 3 1 64 w5 := Turns.ofOwn hO5 fun j hj => stops_d tx j (by rw [HN.out]; exact hj)
      have hE : ∀ i, (Value.ownBlock (.slice a4 n3 c4')) = some i → (¬ F' i ∧ ¬ G' i) ∧ w0.heap.size ≤ i := fun i hi => by
        have h1 := HO4.out.lt i hi
        refine ⟨⟨fun hf => ?_, fun hg => ?_⟩, by omega⟩
        · rcases hF5 i hf with h2 | h2
          · have := hFl i h2; omega
          · omega
        · have := hGl i hg; omega
      have HE := Lib.hid hE
      have HT5 := Lib.hid hT5
      have HS5 := Lib.hid hS5
      have HC5 := Lib.hid (HC4.out.trans had5.chg fun i hi => Or.inl (Or.inl hi))
      have HEW := Lib.hid (show ∀ i, (Value.ownBlock (.slice a4 n3 c4')) = some i → w.heap.size ≤ i from fun i hi => by have := (HO4.out.lt i hi).1; omega)
      have HBW5 := Lib.hid (HBW4.out.trans hb5)
      have hBW5 : w0.heap.size ≤ w5.heap.size := HBW5.out.size
      clear hk' had5 hS5 hF5 hb5 hFl hGl hO5 hT5 hE HMS
      go_wp2_with fail
      go_loopw [70] (fun ix wr => ∃ k : Nat, k ≤ n3 ∧ ix = .int .i64 k ∧ Turns a4 n3 c4' 3 1 64 wr ∧ Chg (fun i => (Value.ownBlock (.slice a4 n3 c4')) = some i) w5 wr) (fun ix _ => n3 - (intOf ix).toNat)
      case atStart => exact ⟨0, by omega, rfl, HT5.out, Chg.refl _ _⟩
      case round =>
        obtain ⟨wo, hwo⟩ : ∃ z : World, wr = z := ⟨_, rfl⟩
        obtain ⟨j, hjn, rfl, hT, hC⟩ := hrel
        rw [hwo] at hT hC ⊢
        clear hwo
        by_cases hlt : j < n3
        · have HT := Lib.hid hT
          have HC := Lib.hid hC
          rcases hT with h0 | ⟨g, cur, hag, hnd, hh, hjj⟩
          · omega
          · obtain ⟨y, hy⟩ := hjj j hlt
            have e1 : wo.cell? ⟨g, j * 3 + 1, none⟩ = some (.int .i64 y) := (Lib.cell_of_heap hh _).trans hy
            have e2 := Lib.frozen_of_heap hh (j * 3 + 1)
            subst hag
            clear hh hjj hy hC
            go_wp2_with fail
            go_roundw
            case rel => exact ⟨j + 1, by omega, by go_num, HT.out.set rfl _, HC.out.trans (Chg.of_set (F := fun i => (Value.ownBlock (.slice (some ⟨g, 0, none⟩) n3 c4')) = some i) wo _ rfl) fun _ => Or.inl⟩
            case measure => simp [intOf]; omega
        · obtain ⟨hS6, hb6⟩ := HS5.out.other hBW5 hC (fun i hi => (HE.out i hi).1) fun i hi => (HE.out i hi).2
          have HS6 := Lib.hid hS6
          have HC6 := Lib.hid (HC5.out.trans hC fun i hi => Or.inr (HEW.out i hi))
          have HB6 := Lib.hid (HBW5.out.trans hb6)
          clear hS6 hb6 hC hT
          go_wp2_with fail
          go_ret
          exact ⟨rfl, ⟨⟨_, _, _, HS6.out, HSZ2.out⟩, HB6.out⟩, HC6.out⟩
end Go.Proofs.YtaijdpckkobofaaDoor
