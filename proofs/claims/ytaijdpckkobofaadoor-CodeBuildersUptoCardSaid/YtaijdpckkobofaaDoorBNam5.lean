/- The law's names: Send. -/
import Derived.Test.YtaijdpckkobofaaDoorBNam0
namespace Go.Proofs.YtaijdpckkobofaaDoor
open Go.RowKit
set_option linter.unusedVariables false

theorem ints_v (l : List Int) (j : Nat) (h : j < l.length) : ∃ x, (intsCells l)[j]? = some (.int .i64 x) := by
  obtain ⟨y, hy⟩ := get_of_lt h
  exact ⟨y, by simp [intsCells, hy]⟩
theorem Bd.sends {F : Nat → Prop} {T : TypeId} {b : Nat} {w : World} {p : PProg} (h : Bd F T b w p) : ∃ a c ss, w.cell? ⟨b, 3, none⟩ = some (.slice a p.sends.length c) ∧ w.frozen? ⟨b, 3, none⟩ = false ∧ w.ownsRow 0 39 3 (.slice a p.sends.length c) p.sends.length (specCells p.sends ss) ∧ OwnSs 0 w ss p.sends := by
  obtain ⟨vc, vm, vr, vs, ms, rs, ss, h⟩ := h
  obtain ⟨_, _, _, _, _, _, sa, sc, _, _, _, rfl⟩ := h.sl
  exact ⟨sa, sc, ss, h.cell.2.2.2.1, Lib.frozen_of_heap h.here 3, h.sends, h.send⟩

section
variable {F : Nat → Prop} {T : TypeId} {b : Nat} {w w1 : World} {p : PProg} {vc vm vr vs : Value} {ms rs ss : List Value}
/-- a send more, and where its blocks are -/
theorem BAt.putSendX (hT : Tags T) {G : Nat → Prop} {w0 : World} (h0 : BAt F T b w0 p vc vm vr vs ms rs ss) (k0 : Chg G w0 w) (hdj : ∀ i, F i → ¬ G i) {v v' : Value} {m : PSpec} (hv : w.ownsRow w0.heap.size 3 1 v m.routes.length (intsCells m.routes)) {n : Nat} (hg : w.grownBy w1 vs.ownBlock) (hn : p.sends.length + 1 = n) (ho : w1.ownsRow 0 39 3 v' n (specCells p.sends ss ++ [.int .i64 m.msg, v, .int .i64 m.block])) (hm : Moved w vs v') :
    ∃ F', Bd F' T b (w1.setCell ⟨b, 3, none⟩ v') { p with sends := p.sends ++ [m] } ∧ Chg (fun i => F i ∨ G i) w0 (w1.setCell ⟨b, 3, none⟩ v') ∧ ∀ i, F' i → (F i ∨ w0.heap.size ≤ i) ∧ (F i ∨ w.heap.size ≤ i ∨ v.ownBlock = some i) := by
  obtain ⟨t1, t2, t3, t4, t5, t6, t7⟩ := hT
  have h := h0.keep k0 hdj
  have hh := block_grown h.here h.sends t6 hg
  have hv1 := own_set hh (row_grown hv h.sends (by decide) hg) t7 3 v'
  have hF := h.fs.app hm
  have hsz := hg.size
  have hsz0 := k0.size
  refine ⟨fun i => F i ∨ v'.ownBlock = some i ∨ v.ownBlock = some i, ⟨vc, vm, vr, v', ms, rs, ss ++ [v], ?_, h.nums, Or.inl h.inF, ?_, own_set hh (row_grown h.code h.sends (by decide) hg) t1 _ _, h.fc.weak fun _ => Or.inl, own_set hh (row_grown h.msgs h.sends (by decide) hg) t2 _ _, h.fm.weak fun _ => Or.inl, (h.msg.grown h.sends (by decide) hg).set hh t3 _ _, fun u hu => (h.fms u hu).weak fun _ => Or.inl, own_set hh (row_grown h.routes h.sends (by decide) hg) t4 _ _, h.fr.weak fun _ => Or.inl, (h.route.grown h.sends (by decide) hg).set hh t5 _ _, fun u hu => (h.frs u hu).weak fun _ => Or.inl, ?_, fun g hg => Or.inr (Or.inl hg), (OwnR.snocN h.send (fun u x hx => own_set hh (row_grown hx h.sends (by decide) hg) t7 _ _) hv1 (Nat.zero_le _) (fun u hu g hug => h0.lt g (h.fss u hu g hug))), ?_, h.ops⟩, ?_, ?_⟩
  · rw [setk_heap hh]; rfl
  · intro k hk
    rw [show (w1.setCell ⟨b, 3, none⟩ v').heap.size = w1.heap.size by simp [World.setCell]]
    rcases hk with hk | hk | hk
    · have := h.lt k hk; omega
    · exact (ho.lt k hk).2
    · have := (hv.lt k hk).2; omega
  · show World.ownsRow _ _ _ _ _ (p.sends ++ [m]).length _
    rw [List.length_append, List.length_singleton, hn]
    have e : specCells (p.sends ++ [m]) (ss ++ [v]) = specCells p.sends ss ++ [.int .i64 m.msg, v, .int .i64 m.block] := specCells_snoc _ _ _ _ h.send.len
    rw [e]
    exact own_set hh ho t6 _ _
  · intro u hu g hug
    rcases List.mem_append.1 hu with hu | hu
    · exact Or.inl (h.fss u hu g hug)
    · simp only [List.mem_singleton] at hu
      subst hu
      exact Or.inr (Or.inr hug)
  · exact ((k0.weak (G := fun i => F i ∨ G i) fun _ => Or.inr).trans (Chg.of_grown hg h.fs) fun _ hi => Or.inl (Or.inl hi)).trans (Chg.of_set (F := F) w1 v' h.inF) fun _ hi => Or.inl (Or.inl hi)
  · intro i hi
    rcases hi with hi | hi | hi
    · exact ⟨Or.inl hi, Or.inl hi⟩
    · rcases hF i hi with h1 | h1
      · exact ⟨Or.inl h1, Or.inl h1⟩
      · exact ⟨Or.inr (by omega), Or.inr (Or.inl h1)⟩
    · exact ⟨Or.inr (hv.lt i hi).1, Or.inr (Or.inr hi)⟩
end
theorem two_new (w : World) (o : Obj) : ((w.alloc o).alloc o).drew.heap[w.heap.size]? = some o ∧ ((w.alloc o).alloc o).drew.heap[w.heap.size + 1]? = some o ∧ Below w.heap.size w ((w.alloc o).alloc o).drew := by
  refine ⟨?_, ?_, (((Below.refl _ _).alloc (Nat.le_refl _) _).alloc (by rw [World.size_alloc]; omega) _).drew⟩
  · exact (((Below.refl (w.alloc o).heap.size (w.alloc o)).alloc (Nat.le_refl _) o).block w.heap.size (by rw [World.size_alloc]; omega)).trans (heap_new w o)
  · have := heap_new (w.alloc o) o
    rw [World.size_alloc] at this
    exact this

set_option maxRecDepth 100000 in
set_option maxHeartbeats 8000000 in
theorem names_k5 (b z N K : Nat) (w0 w : World) (p : PProg) (F G : Nat → Prop) (hw : Below w0.heap.size w0 w) (h : St2 w0.heap.size b z w p p F G) (hsz : Sz N p) (hN : N ≤ 4194304) (a t m bl : Int) (x1 x2 x3 x4 : Option Addr) (n1 n2 n3 n4 c1 c2 c3 c4 : Nat) (tx : List Int) (hA : IntsA w0 x4 tx) (hn : tx.length = n4) (hnil : x4 = none → c4 = 0) (hK : n4 + 1 ≤ K) (hNK : N + K ≤ 4194304) :
    Calls Tryd.prog 12 #[.pointer (some ⟨b, 0, none⟩), .pointer (some ⟨z, 0, none⟩), .agg #[.int .i64 5, .int .i64 a, .int .i64 t, .slice x1 n1 c1, .slice x2 n2 c2, .slice x3 n3 c3, .int .i64 m, .slice x4 n4 c4, .int .i64 bl]] w fun e w' => e = .returned (.bool true) ∧ Both w0 b z (N + K) w' ∧ Chg (fun i => F i ∨ G i) w w' := by
  obtain ⟨w1, q, hw1, hq⟩ : ∃ w1 q, w.alloc (.cells #[.int .i64 5, .int .i64 a, .int .i64 t, .slice x1 n1 c1, .slice x2 n2 c2, .slice x3 n3 c3, .int .i64 m, .slice x4 n4 c4, .int .i64 bl] 41) = w1 ∧ w.heap.size = q := ⟨_, _, rfl, rfl⟩
  have hb1 : Below w.heap.size w w1 := by rw [← hw1]; exact (Below.refl _ _).alloc (Nat.le_refl _) _
  have hh1 : w1.heap[q]? = some (.cells #[.int .i64 5, .int .i64 a, .int .i64 t, .slice x1 n1 c1, .slice x2 n2 c2, .slice x3 n3 c3, .int .i64 m, .slice x4 n4 c4, .int .i64 bl] 41 (0, 0)) := by rw [← hw1, ← hq]; exact heap_new _ _
  have hql : q < w1.heap.size := (Array.getElem?_eq_some_iff.1 hh1).1
  have q0 : w1.cell? ⟨q, 0, none⟩ = some (.int .i64 5) := (Lib.cell_of_heap hh1 _).trans rfl
  have q6 : w1.cell? ⟨q, 6, none⟩ = some (.int .i64 m) := (Lib.cell_of_heap hh1 _).trans rfl
  have q7 : w1.cell? ⟨q, 7, none⟩ = some (.slice x4 n4 c4) := (Lib.cell_of_heap hh1 _).trans rfl
  have q8 : w1.cell? ⟨q, 8, none⟩ = some (.int .i64 bl) := (Lib.cell_of_heap hh1 _).trans rfl
  have hB0 : w0.heap.size ≤ w.heap.size := hw.size
  have HS1 := Lib.hid (h.below hb1)
  have hqF : ¬ F q := fun hf => by have := h.hb.lt q hf; omega
  have hqG : ¬ G q := fun hf => by have := h.hq.lt q hf; omega
  have HBW1 := Lib.hid (hw.trans (hb1.mono hB0))
  have HA := Lib.hid (show ∀ W, Below w0.heap.size w0 W → IntsA W x4 tx from fun W hW => hA.below hW)
  have HN := Lib.hid hn
  have HNIL := Lib.hid hnil
  have HC1 : Hid (Chg (fun i => F i ∨ G i) w w1) := Lib.hid (Chg.of_below hb1)
  have HSZ := Lib.hid hsz
  obtain ⟨pa, pc, ss1, z1, zf1, hzo, hzm⟩ := HS1.out.hq.sends
  have HRA := Lib.hid (SpecsA.ofOwn hzo hzm rfl)
  obtain ⟨l1, hl1⟩ : ∃ n, p.sends.length = n := ⟨_, rfl⟩
  have HL1 := Lib.hid hl1
  have hlen : l1 ≤ N := by rw [← hl1]; exact hsz.1.2.2.2
  rw [hl1] at z1
  have hBW1 : w0.heap.size ≤ w1.heap.size := HBW1.out.size
  have hzl := HS1.out.hq.here.2.1
  have HW1 := Lib.hid hw1
  have HQ := Lib.hid hq
  obtain ⟨i0, hi, hz0, hz1, hz2⟩ := info_parts info_spec
  obtain ⟨i1, hj, hy0, hy1, hy2⟩ := info_parts info_int
  clear h hb1 hh1 hw1 hq hA hn hnil hsz hl1 hzo hzm hw zf1
  go_enter Tryd.func12, Tryd.ntmps12
  go_upto_region 1 with fail
  rw [HW1.out, HQ.out]
  clear HW1 HQ
  go_upto_block 5 with fail
  go_cut [7] (fun s wx => ∃ k : Nat, IsFirst p.sends ⟨m, tx, bl⟩ k ∧ s = .int .i64 (k : Int) ∧ Below w1.heap.size w1 wx)
  case first =>
    go_wp2_with fail
    go_loopw [7] (fun ix wr => ∃ k : Nat, k ≤ l1 ∧ ix = .int .i64 k ∧ (∀ j, j < k → p.sends[j]? ≠ some ⟨m, tx, bl⟩) ∧ Below w1.heap.size w1 wr) (fun ix _ => l1 - (intOf ix).toNat)
    case atStart => exact ⟨0, by omega, rfl, fun j hj => by omega, Below.refl _ _⟩
    case round =>
      obtain ⟨wo, hwo⟩ : ∃ z : World, wr = z := ⟨_, rfl⟩
      obtain ⟨k, hk, rfl, hne, hbel⟩ := hrel
      rw [hwo] at hbel ⊢
      clear hwo
      have HNE := Lib.hid hne
      have HB := Lib.hid hbel
      have d2 : wo.cell? ⟨z, 3, none⟩ = some (.slice pa l1 pc) := (hbel.cell (p := ⟨z, 3, none⟩) hzl).trans z1
      have d6 : wo.cell? ⟨q, 6, none⟩ = some (.int .i64 m) := (hbel.cell (p := ⟨q, 6, none⟩) hql).trans q6
      have d7 : wo.cell? ⟨q, 7, none⟩ = some (.slice x4 n4 c4) := (hbel.cell (p := ⟨q, 7, none⟩) hql).trans q7
      have d8 : wo.cell? ⟨q, 8, none⟩ = some (.int .i64 bl) := (hbel.cell (p := ⟨q, 8, none⟩) hql).trans q8
      clear hne
      by_cases hlt : k < l1
      · obtain ⟨x, hx⟩ : ∃ x, p.sends[k]? = some x := ⟨_, List.getElem?_eq_getElem (by rw [HL1.out]; exact hlt)⟩
        obtain ⟨p1, q1', ⟨g1, o1, e1, _, k1⟩, hA1, _⟩ := (HRA.out.below hbel) k x hx
        have hxl := HSZ.out.2.2.2 x (List.mem_of_getElem? hx)
        obtain ⟨msg, rs, blk⟩ := x
        obtain ⟨mm, hm⟩ : ∃ mm, rs.length = mm := ⟨_, rfl⟩
        replace hxl : mm ≤ N := by rw [← hm]; exact hxl
        have d10 : wo.cell? ⟨g1, o1 + k * 3, none⟩ = some (.int .i64 msg) := k1 0 _ rfl
        have d11 : wo.cell? ⟨g1, o1 + k * 3 + 1, none⟩ = some (.slice p1 mm q1') := by rw [← hm]; exact k1 1 _ rfl
        have d12 : wo.cell? ⟨g1, o1 + k * 3 + 2, none⟩ = some (.int .i64 blk) := k1 2 _ rfl
        have HX := Lib.hid hx
        obtain ⟨rv, hrv⟩ := dec_ex ((⟨msg, rs, blk⟩ : PSpec) = ⟨m, tx, bl⟩)
        have HRV := Lib.hid hrv
        have HC := Lib.hid (fun (W : World) (hW : Below wo.heap.size wo W) => rsameSpec p1 x4 q1' c4 mm n4 msg m blk bl rs tx W (hA1.below hW) (HA.out W (HBW1.out.trans ((hbel.trans (hW.mono hbel.size)).mono hBW1))) hm HN.out (by omega) (by omega) rv hrv)
        subst e1
        clear hx hbel hrv k1 hA1 hm hxl
        obtain ⟨nrv, hnrv⟩ : ∃ nrv, (!rv) = nrv := ⟨_, rfl⟩
        go_upto_region 17 with fail
        go_cut [103] (fun s wx => s = .bool nrv ∧ Below wo.heap.size wo wx)
        case first =>
          go_region_with (go_at_call 43; refine (HC.out _ (by exact Below.drew (Below.refl _ _))).mono ?_; rintro e w2 ⟨rfl, hb2⟩; have hb3 : Below wo.heap.size wo w2 := Below.trans (Below.drew (Below.refl _ _)) hb2)
          all_goals (go_wp2_with fail; go_meet; exact ⟨by first | rfl | (rw [hnrv]), by assumption⟩)
        case rest =>
          obtain ⟨rfl, hb2⟩ := hcut
          have HB2 := Lib.hid (HB.out.trans (hb2.mono HB.out.size))
          clear hb2
          cases rv
          · obtain rfl : true = nrv := hnrv
            have hxy : ¬ (⟨msg, rs, blk⟩ : PSpec) = ⟨m, tx, bl⟩ := fun h => by have := HRV.out.2 h; cases this
            have HXY := Lib.hid hxy
            clear hxy
            go_wp2_with fail
            go_roundw
            case rel => exact ⟨k + 1, by omega, by go_num, next_ne HNE.out HX.out HXY.out, HB2.out⟩
            case measure => simp [intOf]; omega
          · obtain rfl : false = nrv := hnrv
            have HXY := Lib.hid (HRV.out.1 rfl)
            go_wp2_with fail
            go_meet
            exact ⟨k, ⟨by rw [HL1.out]; omega, HNE.out, fun _ => by rw [HX.out, HXY.out]⟩, rfl, HB2.out⟩
      · go_upto_region 17 with fail
        go_cut [103] (fun s wx => s = .bool false ∧ Below wo.heap.size wo wx)
        case first =>
          go_region
          all_goals (go_wp2_with fail; go_meet; exact ⟨rfl, by first | exact Below.drew (Below.refl _ _) | exact below_drewN (Below.refl _ _) _⟩)
        case rest =>
          obtain ⟨rfl, hb2⟩ := hcut
          have HB2 := Lib.hid (HB.out.trans (hb2.mono HB.out.size))
          clear hb2 hbel
          go_wp2_with fail
          go_meet
          exact ⟨k, ⟨by rw [HL1.out]; omega, HNE.out, fun h => by rw [HL1.out] at h; omega⟩, rfl, HB2.out⟩
  case rest =>
    obtain ⟨k, hk, rfl, hb2⟩ := hcut
    obtain ⟨w2, hw2⟩ : ∃ z : World, wc = z := ⟨_, rfl⟩
    rw [hw2] at hb2 ⊢
    clear hw2
    have HK := Lib.hid hk
    have hkl : k ≤ l1 := by have := hk.1; rw [HL1.out] at this; exact this
    have HS2 := Lib.hid (HS1.out.below hb2)
    have HBW2 := Lib.hid (HBW1.out.trans (hb2.mono hBW1))
    have HC2 := Lib.hid (HC1.out.trans (Chg.of_below (F := fun _ => False) hb2) fun _ h => h.elim)
    have hww2 : w.heap.size ≤ w2.heap.size := HC2.out.size
    have q62 : w2.cell? ⟨q, 6, none⟩ = some (.int .i64 m) := (hb2.cell (p := ⟨q, 6, none⟩) hql).trans q6
    have q72 : w2.cell? ⟨q, 7, none⟩ = some (.slice x4 n4 c4) := (hb2.cell (p := ⟨q, 7, none⟩) hql).trans q7
    have q82 : w2.cell? ⟨q, 8, none⟩ = some (.int .i64 bl) := (hb2.cell (p := ⟨q, 8, none⟩) hql).trans q8
    have z2 : w2.cell? ⟨z, 3, none⟩ = some (.slice pa l1 pc) := (hb2.cell (p := ⟨z, 3, none⟩) hzl).trans z1
    have hql2 : q < w2.heap.size := by have := hb2.size; omega
    have hzl2 : z < w2.heap.size := by have := hb2.size; omega
    have hBW2 : w0.heap.size ≤ w2.heap.size := HBW2.out.size
    clear hk hb2 q0 q6 q7 q8 z1 HRA
    obtain ⟨p2, hp2⟩ : ∃ p2, (if k < l1 then p else { p with sends := p.sends ++ [⟨m, tx, bl⟩] }) = p2 := ⟨_, rfl⟩
    have HP2 := Lib.hid hp2
    have HSZ2 : Hid (Sz (N + K) p2) := Lib.hid (by
      rw [← hp2]
      split
      · exact HSZ.out.mono (by omega)
      · exact HSZ.out.send (m := ⟨m, tx, bl⟩) (by show tx.length + 1 ≤ K; rw [HN.out]; exact hK))
    clear hp2
    go_upto_region 19 with fail
    go_cut [10, 11] (fun s10 s11 wx => ∃ r1 r2 : Nat, s10 = .pointer (some ⟨r1, 0, none⟩) ∧ s11 = .pointer (some ⟨r2, 0, none⟩) ∧ r1 ≠ r2 ∧ w2.heap.size ≤ r1 ∧ w2.heap.size ≤ r2 ∧ wx.heap[r1]? = some (.cells #[.int .i64 m, .slice x4 n4 c4, .int .i64 bl] 39 (0, 0)) ∧ wx.heap[r2]? = some (.cells #[.int .i64 m, .slice x4 n4 c4, .int .i64 bl] 39 (0, 0)) ∧ Below w2.heap.size w2 wx)
    case first =>
      go_region
      all_goals
        go_wp2_with fail
        go_meet
        obtain ⟨t1, t2, t3⟩ := two_new w2 (.cells #[.int .i64 m, .slice x4 n4 c4, .int .i64 bl] 39)
        first
          | exact ⟨_, _, rfl, rfl, by omega, by omega, by omega, t1, t2, t3⟩
          | exact ⟨_, _, rfl, rfl, by omega, by omega, by omega, t2, t1, t3⟩
    case rest =>
      obtain ⟨r1, r2, rfl, rfl, hr12, hr1, hr2, hh1, hh2, hb3⟩ := hcut
      obtain ⟨w3, hw3⟩ : ∃ z : World, wc = z := ⟨_, rfl⟩
      rw [hw3] at hh1 hh2 hb3 ⊢
      clear hw3
      have q73 : w3.cell? ⟨q, 7, none⟩ = some (.slice x4 n4 c4) := (hb3.cell (p := ⟨q, 7, none⟩) hql2).trans q72
      have hql3 : q < w3.heap.size := Nat.lt_of_lt_of_le hql2 hb3.size
      have hr1l : r1 < w3.heap.size := (Array.getElem?_eq_some_iff.1 hh1).1
      have hr2l : r2 < w3.heap.size := (Array.getElem?_eq_some_iff.1 hh2).1
      have hs23 := hb3.size
      have HH1 := Lib.hid hh1
      have HH2 := Lib.hid hh2
      have HB3 := Lib.hid hb3
      have hlit3 := mlit w3 3 1 w3.heap.size (Nat.le_refl _)
      have hb30 : Below w3.heap.size w3 (w3.alloc (.cells #[] 3)) := (Below.refl _ _).alloc (Nat.le_refl _) _
      have HSRC3 := Lib.hid (SrcA.ints (HA.out w3 (HBW2.out.trans (hb3.mono hBW2))) HN.out HNIL.out)
      clear hh1 hh2 hb3 q62 q72 q82
      go_upto_region 21 with (first | (at_builtin; refine wpList_append_any rfl (.tmp 110) (.tmp 113) 37 rfl w3.heap.size 3 i1 (.int .i64 0) 1 8 Tryd.underlying37 hj hy0 hy1 hy2 rfl (by decide) _ 0 [] rfl hlit3 _ n4 (intsCells tx) rfl (HSRC3.out.below hb30) (by unfold maxLen; omega) (by omega) (by rw [World.size_alloc]; omega) ?_; intro v4 w4 ho4 hg4 hm4; have hb4 := mbelow_grow hb30 (by rw [World.size_alloc]; omega) hlit3 hg4; have HO4 := Lib.hid (mown_cast ho4 (Nat.zero_add n4) (List.nil_append (intsCells tx))); obtain ⟨a5, c5, rfl⟩ := own_slice_n HO4.out; have hk1 := (hb4.block r1 hr1l).trans HH1.out; have s1 : w4.cell? ⟨r1, 1, none⟩ = some (.slice x4 n4 c4) := (Lib.cell_of_heap hk1 _).trans rfl; have s2 := Lib.frozen_of_heap hk1 1; have HB4 := Lib.hid hb4; obtain ⟨w4s, hw4s⟩ : ∃ y, w4.setCell ⟨r1, 1, none⟩ (.slice a5 n4 c5) = y := ⟨_, rfl⟩; clear ho4 hg4 hm4 hb4 hk1))
      have hk1 : w4s.heap[r1]? = some (.cells #[.int .i64 m, .slice a5 n4 c5, .int .i64 bl] 39 (0, 0)) := by rw [← hw4s]; exact setk_heap ((HB4.out.block r1 hr1l).trans HH1.out) _
      have hk2 : w4s.heap[r2]? = some (.cells #[.int .i64 m, .slice x4 n4 c4, .int .i64 bl] 39 (0, 0)) := by rw [← hw4s, heap_set_ne (fun h => hr12 h.symm)]; exact (HB4.out.block r2 hr2l).trans HH2.out
      have hO4s : w4s.ownsRow w3.heap.size 3 1 (.slice a5 n4 c5) n4 (intsCells tx) := by rw [← hw4s]; exact own_set ((HB4.out.block r1 hr1l).trans HH1.out) HO4.out (by decide) _ _
      have hb4s : Below w2.heap.size w2 w4s := by rw [← hw4s]; exact (HB3.out.trans (HB4.out.mono hs23)).setCell (p := ⟨r1, 1, none⟩) hr1 _
      have hs4 : w3.heap.size ≤ w4s.heap.size := by rw [← hw4s]; simp [World.setCell]; exact HB4.out.size
      have q74 : w4s.cell? ⟨q, 7, none⟩ = some (.slice x4 n4 c4) := by rw [← hw4s, mcell_set_other (by omega)]; exact (HB4.out.cell (p := ⟨q, 7, none⟩) hql3).trans q73
      have hql4 : q < w4s.heap.size := by omega
      have hr1l4 : r1 < w4s.heap.size := by omega
      have hr2l4 : r2 < w4s.heap.size := by omega
      have HK1 := Lib.hid hk1
      have HK2 := Lib.hid hk2
      have HO4s := Lib.hid hO4s
      have HB4s := Lib.hid hb4s
      have hlit4 := mlit w4s 3 1 w4s.heap.size (Nat.le_refl _)
      have hb40 : Below w4s.heap.size w4s (w4s.alloc (.cells #[] 3)) := (Below.refl _ _).alloc (Nat.le_refl _) _
      have HSRC4 := Lib.hid (SrcA.ints (HA.out w4s (HBW2.out.trans (hb4s.mono hBW2))) HN.out HNIL.out)
      clear hk1 hk2 hO4s hb4s hw4s s1 s2 hlit3 hb30 HSRC3 q73
      go_upto_region 22 with (first | (at_builtin; refine wpList_append_any rfl (.tmp 116) (.tmp 119) 37 rfl w4s.heap.size 3 i1 (.int .i64 0) 1 8 Tryd.underlying37 hj hy0 hy1 hy2 rfl (by decide) _ 0 [] rfl hlit4 _ n4 (intsCells tx) rfl (HSRC4.out.below hb40) (by unfold maxLen; omega) (by omega) (by rw [World.size_alloc]; omega) ?_; intro v5 w5 ho5 hg5 hm5; have hb5 := mbelow_grow hb40 (by rw [World.size_alloc]; omega) hlit4 hg5; have HO5 := Lib.hid (mown_cast ho5 (Nat.zero_add n4) (List.nil_append (intsCells tx))); obtain ⟨a6, c6, rfl⟩ := own_slice_n HO5.out; have hk2 := (hb5.block r2 hr2l4).trans HK2.out; have s1 : w5.cell? ⟨r2, 1, none⟩ = some (.slice x4 n4 c4) := (Lib.cell_of_heap hk2 _).trans rfl; have s2 := Lib.frozen_of_heap hk2 1; have HB5 := Lib.hid hb5; obtain ⟨w5s, hw5s⟩ : ∃ y, w5.setCell ⟨r2, 1, none⟩ (.slice a6 n4 c6) = y := ⟨_, rfl⟩; clear ho5 hg5 hm5 hb5 hk2))
      have hk2 : w5s.heap[r2]? = some (.cells #[.int .i64 m, .slice a6 n4 c6, .int .i64 bl] 39 (0, 0)) := by rw [← hw5s]; exact setk_heap ((HB5.out.block r2 hr2l4).trans HK2.out) _
      have hk1 : w5s.heap[r1]? = some (.cells #[.int .i64 m, .slice a5 n4 c5, .int .i64 bl] 39 (0, 0)) := by rw [← hw5s, heap_set_ne hr12]; exact (HB5.out.block r1 hr1l4).trans HK1.out
      have hO5s : w5s.ownsRow w4s.heap.size 3 1 (.slice a6 n4 c6) n4 (intsCells tx) := by rw [← hw5s]; exact own_set ((HB5.out.block r2 hr2l4).trans HK2.out) HO5.out (by decide) _ _
      have hO4t : w5s.ownsRow w3.heap.size 3 1 (.slice a5 n4 c5) n4 (intsCells tx) := by rw [← hw5s]; exact own_set ((HB5.out.block r2 hr2l4).trans HK2.out) (ownsRow_old HO4s.out HB5.out) (by decide) _ _
      have hb5s : Below w2.heap.size w2 w5s := by rw [← hw5s]; exact (HB4s.out.trans (HB5.out.mono (by omega))).setCell (p := ⟨r2, 1, none⟩) hr2 _
      have hs5 : w4s.heap.size ≤ w5s.heap.size := by rw [← hw5s]; simp [World.setCell]; exact HB5.out.size
      have z5 : w5s.cell? ⟨z, 3, none⟩ = some (.slice pa l1 pc) := (hb5s.cell (p := ⟨z, 3, none⟩) hzl2).trans z2
      have hzl5 : z < w5s.heap.size := by omega
      have hr1l5 : r1 < w5s.heap.size := by omega
      have hr2l5 : r2 < w5s.heap.size := by omega
      have HK1' := Lib.hid hk1
      have HK2' := Lib.hid hk2
      have HO5s := Lib.hid hO5s
      have HO4t := Lib.hid hO4t
      have HB5s := Lib.hid hb5s
      have k20 : w5s.cell? ⟨r2, 0, none⟩ = some (.int .i64 m) := (Lib.cell_of_heap hk2 _).trans rfl
      have k21 : w5s.cell? ⟨r2, 1, none⟩ = some (.slice a6 n4 c6) := (Lib.cell_of_heap hk2 _).trans rfl
      have k22 : w5s.cell? ⟨r2, 2, none⟩ = some (.int .i64 bl) := (Lib.cell_of_heap hk2 _).trans rfl
      have hGl2 := HS2.out.hq.lt
      have hFl2 := HS2.out.hb.lt
      clear hk1 hk2 hO5s hO4t hb5s hw5s s1 s2 hlit4 hb40 HSRC4 q74 z2 HK1 HK2 HH1 HH2
      obtain ⟨kb, hkb⟩ : ∃ kb, ((k : Int) == (l1 : Int)) = kb := ⟨_, rfl⟩
      go_upto_if 128 with fail
      have HKB := Lib.hid hkb
      clear hkb
      go_cut [] (fun wx => ∃ G'', Bd G'' 28 z wx p2 ∧ Chg G w5s wx ∧ ∀ i, G'' i → (G i ∨ w2.heap.size ≤ i) ∧ (G i ∨ w5s.heap.size ≤ i ∨ (Value.ownBlock (.slice a6 n4 c6)) = some i))
      case first =>
        cases kb
        · have hlt : k < l1 := by have := HKB.out; rw [beq_eq_false_iff_ne] at this; omega
          go_wp2_with fail
          go_meet
          rw [← HP2.out, if_pos hlt]
          exact ⟨G, HS2.out.hq.of_below HB5s.out, Chg.refl _ _, fun i hi => ⟨Or.inl hi, Or.inl hi⟩⟩
        · obtain rfl : k = l1 := by have := HKB.out; rw [beq_iff_eq] at this; omega
          obtain ⟨vc, vm, vr, vs, ms, rs, ss2, hBB⟩ := HS2.out.hq
          obtain ⟨ca, cc, ma, mc, ra, rc, sa, sc, rfl, rfl, rfl, rfl⟩ := hBB.sl
          have y2 := (hBB.of_below HB5s.out).cell.2.2.2.1
          rw [z5] at y2
          injection y2 with y2
          injection y2 with e1 en e2
          subst e1 e2
          clear en
          have HBB := Lib.hid hBB
          have hyo := (hBB.of_below HB5s.out).sends
          rw [HL1.out] at hyo
          have HZH := Lib.hid (hBB.of_below HB5s.out).here
          have HFS := Lib.hid hBB.fs
          have HINF := Lib.hid hBB.inF
          have hbD : Below w5s.heap.size w5s (w5s.alloc (.cells #[.int .i64 m, .slice a6 n4 c6, .int .i64 bl] 39)).drew := ((Below.refl _ _).alloc (Nat.le_refl _) _).drew
          have hyD : (w5s.alloc (.cells #[.int .i64 m, .slice a6 n4 c6, .int .i64 bl] 39)).drew.ownsRow 0 39 3 (.slice pa k pc) k (specCells p.sends ss2) := ownsRow_old hyo hbD
          have hsrcD : SrcA (w5s.alloc (.cells #[.int .i64 m, .slice a6 n4 c6, .int .i64 bl] 39)).drew (.slice (some ⟨w5s.heap.size, 0, none⟩) 1 1) 1 3 [.int .i64 m, .slice a6 n4 c6, .int .i64 bl] := ⟨_, _, rfl, rfl, spec_one _ _ _ _ _, (fun e => by cases e), fun ad e => by cases e; exact mcells_new w5s _ _⟩
          have HZ5 := Lib.hid ((hbD.block z hzl5).trans HZH.out)
          clear hyo hBB
          go_upto_region 23 with fail
          go_region_law (refine mstep_append_any rfl (.tmp 133) (.tmp 135) 26 rfl 0 39 i0 (.agg #[.int .i64 0, .slice none 0 0, .int .i64 0]) 3 40 Tryd.underlying26 hi hz0 hz1 hz2 rfl (by decide) (.slice pa k pc) k (specCells p.sends ss2) (by simp [Act.eval]) hyD (.slice (some ⟨w5s.heap.size, 0, none⟩) 1 1) 1 [.int .i64 m, .slice a6 n4 c6, .int .i64 bl] (by simp [Act.eval]) hsrcD (by unfold maxLen; omega) (by omega) (Nat.zero_le _) ?_; intro v9 w9 hown9 hgrow9 hmv9; obtain ⟨a9, c9, rfl⟩ := own_slice_n hown9; have hh9 := block_grown HZ5.out hyD (by decide) hgrow9; have p19 : w9.cell? ⟨z, 3, none⟩ = some (.slice pa k pc) := (by have h := Lib.cell_of_heap hh9 3; rw [HL1.out] at h; exact h); have f19 := Lib.frozen_of_heap hh9 3; have hg9 := Lib.hid hgrow9; have ho9 := Lib.hid hown9; have hm9 := Lib.hid hmv9; clear hgrow9 hown9 hmv9 hh9)
          all_goals
            go_wp2_with fail
            go_meet
            rw [← HP2.out, if_neg (Nat.lt_irrefl _)]
            obtain ⟨G'', g1, -, g3⟩ := BAt.putSendX tags_p (m := ⟨m, tx, bl⟩) HBB.out (Chg.of_below (F := fun _ => False) (HB5s.out.trans (hbD.mono HB5s.out.size))) (fun _ _ => id) (show World.ownsRow _ _ _ _ _ tx.length _ by rw [HN.out]; exact mown_base (by omega) (ownsRow_old HO5s.out hbD)) (by rw [HL1.out]; exact hg9.out) (by rw [HL1.out]) ho9.out (by rw [HL1.out]; exact hm9.out)
            refine ⟨G'', g1, ?_, fun i hi => ⟨(g3 i hi).1, by rcases (g3 i hi).2 with h | h | h; exact Or.inl h; exact Or.inr (Or.inl (Nat.le_trans hbD.size h)); exact Or.inr (Or.inr h)⟩⟩
            exact ((Chg.of_below (F := G) hbD).trans (Chg.of_grown hg9.out (by have h := HFS.out; rw [HL1.out] at h; exact h)) fun _ => Or.inl).trans (Chg.of_set (F := G) w9 _ HINF.out) fun _ => Or.inl
      case rest =>
        obtain ⟨G', hbd, hcg, hgg⟩ := hcut
        obtain ⟨w6, hw6⟩ : ∃ z : World, wc = z := ⟨_, rfl⟩
        rw [hw6] at hbd hcg ⊢
        clear hw6
        have hnG : ∀ i, w2.heap.size ≤ i → ¬ G i := fun i hi hg => by have := hGl2 i hg; omega
        have hnF : ∀ i, w2.heap.size ≤ i → ¬ F i := fun i hi hg => by have := hFl2 i hg; omega
        have hc26 : Chg G w2 w6 := (Chg.of_below (F := G) HB5s.out).trans hcg fun _ => Or.inl
        have hS6 : St2 w0.heap.size b z w6 p p2 F G' := ⟨HS2.out.hb.keep hc26 fun i hf hg => HS2.out.dj i hf hg, hbd, fun i hf hg => by rcases (hgg i hg).1 with h1 | h1; exact HS2.out.dj i hf h1; exact hnF i h1 hf, HS2.out.fB, fun i hg => by rcases (hgg i hg).1 with h1 | h1; exact HS2.out.gB i h1; omega⟩
        have hb6 : Below w0.heap.size w2 w6 := hc26.below HS2.out.gB hBW2
        have HGG := Lib.hid hgg
        have hk16 := (hcg.block r1 hr1l5 (hnG r1 hr1)).trans HK1'.out
        have hO6 := hcg.row HO4t.out fun g hg => hnG g (by have := (HO4t.out.lt g hg).1; omega)
        have hs56 := hcg.size
        have k10 : w6.cell? ⟨r1, 0, none⟩ = some (.int .i64 m) := (Lib.cell_of_heap hk16 _).trans rfl
        have k11 : w6.cell? ⟨r1, 1, none⟩ = some (.slice a5 n4 c5) := (Lib.cell_of_heap hk16 _).trans rfl
        have k12 : w6.cell? ⟨r1, 2, none⟩ = some (.int .i64 bl) := (Lib.cell_of_heap hk16 _).trans rfl
        have HS6 := Lib.hid hS6
        have HC6 := Lib.hid (HC2.out.trans hc26 fun i hi => Or.inl (Or.inr hi))
        have HBW6 := Lib.hid (HBW2.out.trans hb6)
        have hBW6 : w0.heap.size ≤ w6.heap.size := HBW6.out.size
        have HO6 := Lib.hid hO6
        have HK6 := Lib.hid hk16
        have hr1l6 : r1 < w6.heap.size := by omega
        have HMS := Lib.hid (bsend_any F b w6 p HS6.out.hb a5 n4 c5 m bl tx (IntsA.ofOwn hO6 HN.out) HN.out (by omega) (by rw [HL1.out]; omega) (fun x hx => by have := HSZ.out.2.2.2 x hx; omega))
        clear hbd hcg hgg hc26 hS6 hb6 hk16 hO6 k20 k21 k22 z5
        go_wp2_with fail
        refine HMS.out.mono ?_
        rintro e w7 ⟨k', hk', rfl, had7⟩
        obtain rfl := hk'.uniq HK.out
        rw [HL1.out, HP2.out] at had7
        obtain ⟨⟨F', hS7, hF7⟩, hb7⟩ := HS6.out.advB hBW6 had7
        have hO7 := had7.chg.row HO6.out fun g hg => hnF g (by have := (HO6.out.lt g hg).1; omega)
        have hk17 := (had7.chg.block r1 hr1l6 (hnF r1 hr1)).trans HK6.out
        have hT7 : Turns1 a5 n4 c5 .i64 3 w7 := Turns1.ofOwn hO7 fun j hj => ints_v tx j (by rw [HN.out]; exact hj)
        have hE : ∀ i, (Value.ownBlock (.slice a5 n4 c5)) = some i → ((¬ F' i ∧ ¬ G' i) ∧ w0.heap.size ≤ i) ∧ i ≠ r1 := fun i hi => by
          have h1 := HO6.out.lt i hi
          refine ⟨⟨⟨fun hf => ?_, fun hg => ?_⟩, by omega⟩, fun e => ?_⟩
          · rcases hF7 i hf with h2 | h2
            · exact hnF i (by omega) h2
            · omega
          · have h4 := HO4s.out.lt i hi
            rcases (HGG.out i hg).2 with h2 | h2 | h2
            · exact hnG i (by omega) h2
            · omega
            · have := (HO5s.out.lt i h2).1; omega
          · subst e
            obtain ⟨cs, fz, hh⟩ := Lib.ownsRow_kind hO7 i hi
            rw [hk17] at hh
            injection hh with hh
            injection hh with _ hh _
            exact absurd hh (by decide)
        have HE := Lib.hid hE
        have HT7 := Lib.hid hT7
        have HK7 := Lib.hid hk17
        have HS7 := Lib.hid hS7
        have HC7 := Lib.hid (HC6.out.trans had7.chg fun i hi => Or.inl (Or.inl hi))
        have HEW := Lib.hid (show ∀ i, (Value.ownBlock (.slice a5 n4 c5)) = some i → w.heap.size ≤ i from fun i hi => by have := (HO6.out.lt i hi).1; omega)
        have HBW7 := Lib.hid (HBW6.out.trans hb7)
        have hBW7 : w0.heap.size ≤ w7.heap.size := HBW7.out.size
        have hr1l7 : r1 < w7.heap.size := (Array.getElem?_eq_some_iff.1 hk17).1
        have k17 : w7.cell? ⟨r1, 1, none⟩ = some (.slice a5 n4 c5) := (Lib.cell_of_heap hk17 _).trans rfl
        clear hk' had7 hS7 hF7 hb7 hO7 hk17 hT7 hE HMS k10 k11 k12
        go_wp2_with fail
        go_loopw [147] (fun ix wr => ∃ k : Nat, k ≤ n4 ∧ ix = .int .i64 k ∧ Turns1 a5 n4 c5 .i64 3 wr ∧ Chg (fun i => (Value.ownBlock (.slice a5 n4 c5)) = some i) w7 wr) (fun ix _ => n4 - (intOf ix).toNat)
        case atStart => exact ⟨0, by omega, rfl, HT7.out, Chg.refl _ _⟩
        case round =>
          obtain ⟨wo, hwo⟩ : ∃ z : World, wr = z := ⟨_, rfl⟩
          obtain ⟨j, hjn, rfl, hT, hC⟩ := hrel
          rw [hwo] at hT hC ⊢
          clear hwo
          by_cases hlt : j < n4
          · have HT := Lib.hid hT
            have HC := Lib.hid hC
            have kr : wo.cell? ⟨r1, 1, none⟩ = some (.slice a5 n4 c5) := (hC.cell hr1l7 (fun h => (HE.out r1 h).2 rfl)).trans k17
            rcases hT with h0 | ⟨g, cur, hag, hnd, hh, hjj⟩
            · omega
            · obtain ⟨y, hy⟩ := hjj j hlt
              have e1 : wo.cell? ⟨g, j, none⟩ = some (.int .i64 y) := (Lib.cell_of_heap hh _).trans hy
              have e2 := Lib.frozen_of_heap hh j
              subst hag
              clear hh hjj hy hC
              go_wp2_with fail
              go_roundw
              case rel => exact ⟨j + 1, by omega, by go_num, HT.out.set rfl _, HC.out.trans (Chg.of_set (F := fun i => (Value.ownBlock (.slice (some ⟨g, 0, none⟩) n4 c5)) = some i) wo _ rfl) fun _ => Or.inl⟩
              case measure => simp [intOf]; omega
          · obtain ⟨hS8, hb8⟩ := HS7.out.other hBW7 hC (fun i hi => (HE.out i hi).1.1) fun i hi => (HE.out i hi).1.2
            have HS8 := Lib.hid hS8
            have HC8 := Lib.hid (HC7.out.trans hC fun i hi => Or.inr (HEW.out i hi))
            have HB8 := Lib.hid (HBW7.out.trans hb8)
            clear hS8 hb8 hC hT
            go_wp2_with fail
            go_ret
            exact ⟨rfl, ⟨⟨_, _, _, HS8.out, HSZ2.out⟩, HB8.out⟩, HC8.out⟩
end Go.Proofs.YtaijdpckkobofaaDoor
