/- The law's puts: Emit. -/
import Derived.Test.YtaijdpckkobofaaDoorBMem3
import Derived.Deep.CutBlock
namespace Go.Proofs.YtaijdpckkobofaaDoor
open Go.RowKit
set_option linter.unusedVariables false

theorem Adv.cell {F : Nat → Prop} {T : TypeId} {b : Nat} {w w' : World} {p : PProg} (h : Adv F T b w p w') {g o : Nat} (hg : g < w.heap.size) (hn : ¬ F g) : w'.cell? ⟨g, o, none⟩ = w.cell? ⟨g, o, none⟩ := by
  obtain ⟨F', _, h2, _⟩ := h
  exact h2.cell hg hn
theorem Adv.chg {F : Nat → Prop} {T : TypeId} {b : Nat} {w w' : World} {p : PProg} (h : Adv F T b w p w') : Chg F w w' := by
  obtain ⟨F', _, h2, _⟩ := h
  exact h2
theorem Bd.code {F : Nat → Prop} {T : TypeId} {b : Nat} {w : World} {p : PProg} (h : Bd F T b w p) : ∃ a c, w.cell? ⟨b, 0, none⟩ = some (.slice a p.code.length c) ∧ w.frozen? ⟨b, 0, none⟩ = false ∧ w.ownsRow 0 33 3 (.slice a p.code.length c) p.code.length (pinsCells p.code) := by
  obtain ⟨vc, vm, vr, vs, ms, rs, ss, h⟩ := h
  obtain ⟨ca, cc, _, _, _, _, _, _, rfl, _⟩ := h.sl
  exact ⟨ca, cc, h.cell.1, Lib.frozen_of_heap h.here 0, h.code⟩
theorem Bd.ops {F : Nat → Prop} {T : TypeId} {b : Nat} {w : World} {p : PProg} (h : Bd F T b w p) : ∀ x ∈ p.code, x.op ≤ 255 := by
  obtain ⟨vc, vm, vr, vs, ms, rs, ss, h⟩ := h
  exact h.ops
theorem Bd.here {F : Nat → Prop} {T : TypeId} {b : Nat} {w : World} {p : PProg} (h : Bd F T b w p) : F b ∧ b < w.heap.size ∧ ∃ cs, w.heap[b]? = some (.cells cs T (0, 0)) := by
  obtain ⟨vc, vm, vr, vs, ms, rs, ss, h⟩ := h
  exact ⟨h.inF, h.blt, _, h.here⟩
/-- what was given: nothing, or a block whose numbers may turn -/
def Turns (a : Option Addr) (n c size off : Nat) (e : TypeId) (w : World) : Prop := n = 0 ∨ ∃ g cur, a = some ⟨g, 0, none⟩ ∧ n ≤ c ∧ w.heap[g]? = some (.cells cur e (0, 0)) ∧ ∀ j, j < n → ∃ x, cur[j * size + off]? = some (.int .i64 x)
theorem Turns.ofOwn {w : World} {B : Nat} {e : TypeId} {size off : Nat} {a : Option Addr} {n c : Nat} {xs : List Value} (h : w.ownsRow B e size (.slice a n c) n xs) (hx : ∀ j, j < n → ∃ x, xs[j * size + off]? = some (.int .i64 x)) : Turns a n c size off e w := by
  rcases h.2 with ⟨_, h0⟩ | ⟨g, cap, cur, hv, _, hh, hnc, _, hcs, htk⟩
  · exact Or.inl h0
  · injection hv with e1 e2 e3
    subst e1 e3
    refine Or.inr ⟨g, cur, rfl, hnc, hh, fun j hj => ?_⟩
    obtain ⟨x, hx⟩ := hx j hj
    refine ⟨x, ?_⟩
    rw [← htk, List.getElem?_take] at hx
    split at hx
    · simpa using hx
    · cases hx
theorem Turns.set {w : World} {e : TypeId} {size off : Nat} {a : Option Addr} {n c k : Nat} (h : Turns a n c size off e w) {g : Nat} (ha : a = some ⟨g, 0, none⟩) (x : Int) : Turns a n c size off e (w.setCell ⟨g, k * size + off, none⟩ (.int .i64 x)) := by
  rcases h with h | ⟨g', cur, e1, h2, h3, h4⟩
  · exact Or.inl h
  · rw [ha] at e1
    cases e1
    refine Or.inr ⟨g, _, ha, h2, setk_heap h3 _, fun j hj => ?_⟩
    obtain ⟨y, hy⟩ := h4 j hj
    by_cases hjk : j * size + off = k * size + off
    · rw [hjk] at hy ⊢
      have hlt := (Array.getElem?_eq_some_iff.1 hy).1
      exact ⟨x, by simp [hlt]⟩
    · exact ⟨y, by rw [Array.getElem?_setIfInBounds_ne (fun h => hjk h.symm)]; exact hy⟩
theorem pins_a (l : List PIns) (j : Nat) (h : j < l.length) : ∃ x, (pinsCells l)[j * 3 + 1]? = some (.int .i64 x) := by
  obtain ⟨y, hy⟩ := get_of_lt h
  exact ⟨y.a, by rw [pinsCells, flat_get (f := PIns.cells) (m := 3) (fun _ => rfl) l j 1 y hy (by omega)]; rfl⟩

set_option maxRecDepth 100000 in
set_option maxHeartbeats 8000000 in
theorem puts_k1 (b z : Nat) (w0 w : World) (p : PProg) (F G : Nat → Prop) (hw : Below w0.heap.size w0 w) (h : St2 w0.heap.size b z w p p F G) (a t m bl : Int) (x1 x2 x3 x4 : Option Addr) (n1 n2 n3 n4 c1 c2 c3 c4 : Nat) (xs : List PIns) (hA : InsA w0 x1 xs) (hn : xs.length = n1) (hnil : x1 = none → c1 = 0) (hlim : p.code.length + n1 ≤ 4194304) :
    Calls Tryd.prog 11 #[.pointer (some ⟨b, 0, none⟩), .pointer (some ⟨z, 0, none⟩), .agg #[.int .i64 1, .int .i64 a, .int .i64 t, .slice x1 n1 c1, .slice x2 n2 c2, .slice x3 n3 c3, .int .i64 m, .slice x4 n4 c4, .int .i64 bl]] w fun e w' => e = .returned (.bool true) ∧ (∃ F' G', St2 w0.heap.size b z w' { p with code := p.code ++ xs } { p with code := p.code ++ xs } F' G') ∧ Below w0.heap.size w0 w' ∧ Chg (fun i => F i ∨ G i) w w' := by
  obtain ⟨w1, q, hw1, hq⟩ : ∃ w1 q, w.alloc (.cells #[.int .i64 1, .int .i64 a, .int .i64 t, .slice x1 n1 c1, .slice x2 n2 c2, .slice x3 n3 c3, .int .i64 m, .slice x4 n4 c4, .int .i64 bl] 41) = w1 ∧ w.heap.size = q := ⟨_, _, rfl, rfl⟩
  have hb1 : Below w.heap.size w w1 := by rw [← hw1]; exact (Below.refl _ _).alloc (Nat.le_refl _) _
  have hh1 : w1.heap[q]? = some (.cells #[.int .i64 1, .int .i64 a, .int .i64 t, .slice x1 n1 c1, .slice x2 n2 c2, .slice x3 n3 c3, .int .i64 m, .slice x4 n4 c4, .int .i64 bl] 41 (0, 0)) := by rw [← hw1, ← hq]; exact heap_new _ _
  have hql : q < w1.heap.size := (Array.getElem?_eq_some_iff.1 hh1).1
  have q0 : w1.cell? ⟨q, 0, none⟩ = some (.int .i64 1) := (Lib.cell_of_heap hh1 _).trans rfl
  have q3 : w1.cell? ⟨q, 3, none⟩ = some (.slice x1 n1 c1) := (Lib.cell_of_heap hh1 _).trans rfl
  have hB0 : w0.heap.size ≤ w.heap.size := hw.size
  have HS1 := Lib.hid (h.below hb1)
  have hqF : ¬ F q := fun hf => by have := h.hb.lt q hf; omega
  have hqG : ¬ G q := fun hf => by have := h.hq.lt q hf; omega
  have HBW1 := Lib.hid (hw.trans (hb1.mono hB0))
  have HA := Lib.hid (show ∀ W, Below w0.heap.size w0 W → InsA W x1 xs from fun W hW => hA.below hW)
  have HN := Lib.hid hn
  have HC1 : Hid (Chg (fun i => F i ∨ G i) w w1) := Lib.hid (Chg.of_below hb1)
  have hww1 : w.heap.size ≤ w1.heap.size := hb1.size
  have HW1 := Lib.hid hw1
  have HQ := Lib.hid hq
  have HNIL := Lib.hid hnil
  obtain ⟨n0, hn0⟩ : ∃ n, p.code.length = n := ⟨_, rfl⟩
  have HN0 := Lib.hid hn0
  rw [hn0] at hlim
  obtain ⟨i0, hi, hz0, hz1, hz2⟩ := info_parts info_pins
  have hlit := mlit w1 33 3 w1.heap.size (Nat.le_refl _)
  have hb0 : Below w1.heap.size w1 (w1.alloc (.cells #[] 33)) := (Below.refl _ _).alloc (Nat.le_refl _) _
  have HSRC := Lib.hid (SrcA.ins (HA.out w1 HBW1.out) hn hnil)
  have hBW1 : w0.heap.size ≤ w1.heap.size := HBW1.out.size
  clear h hb1 hh1 hw1 hq hA hn hn0 hnil hw
  go_enter Tryd.func11, Tryd.ntmps11
  go_upto_region 1 with fail
  rw [HW1.out, HQ.out]
  clear HW1 HQ
  go_upto_region 4 with (first | (at_builtin; refine wpList_append_any rfl (.tmp 16) (.tmp 18) 23 rfl w1.heap.size 33 i0 (.agg #[.int .u8 0, .int .i64 0, .int .i64 0]) 3 24 Tryd.underlying23 hi hz0 hz1 hz2 rfl (by decide) _ 0 [] rfl hlit _ n1 (pinsCells xs) rfl (HSRC.out.below hb0) (by unfold maxLen; omega) (by omega) (by rw [World.size_alloc]; omega) ?_; intro v2 w2 ho2 hg2 hm2; have hb2 := mbelow_grow hb0 (by rw [World.size_alloc]; omega) hlit hg2; have HO2 := Lib.hid (mown_cast ho2 (Nat.zero_add n1) (List.nil_append (pinsCells xs))); obtain ⟨a2, d2, rfl⟩ := own_slice_n HO2.out; have q32 : w2.cell? ⟨q, 3, none⟩ = some (.slice x1 n1 c1) := (hb2.cell (p := ⟨q, 3, none⟩) hql).trans q3; have HB2 := Lib.hid hb2; clear ho2 hg2 hm2 hb2))
  clear q0 q3 hb0 hlit HSRC
  have HS2 := Lib.hid (HS1.out.below HB2.out)
  obtain ⟨pa, pc, z2, zf2, hz2r⟩ := HS2.out.hq.code
  have hzl2 := HS2.out.hq.here.2.1
  have hzF : ¬ F z := fun hf => HS2.out.dj z hf HS2.out.hq.here.1
  rw [HN0.out] at z2
  have hops : ∀ x ∈ xs, x.op ≤ 255 := fun x hx => by
    obtain ⟨k, hk⟩ := List.mem_iff_getElem?.1 hx
    exact (HA.out w1 HBW1.out k x hk).1
  have HOPS := Lib.hid hops
  have HE := Lib.hid (fun (W : World) (hW : Below w2.heap.size w2 W) => emit_any F b W p (HS2.out.hb.of_below hW) a2 n1 d2 xs ((InsA.ofOwn HO2.out HN.out hops).below hW) HN.out (own_nil HO2.out) (by rw [HN0.out]; omega))
  rw [HN0.out] at HE
  have hqw2 : q < w2.heap.size := by have := HB2.out.size; omega
  clear hops hz2r zf2
  go_cut [28] (fun s wx => s = .bool false ∧ Adv F 30 b w2 { p with code := p.code ++ xs } wx)
  case first =>
    go_region_with (go_at_call 9; refine (HE.out _ (by exact Below.drew (Below.refl _ _))).mono ?_; rintro e w3 ⟨rfl, had⟩; have had2 : Adv F 30 b w2 { p with code := p.code ++ xs } w3 := Adv.first had (Below.drew (Below.refl _ _)); have z3 : w3.cell? ⟨z, 0, none⟩ = some (.slice pa n0 pc) := (had2.cell hzl2 hzF).trans z2)
    all_goals (go_wp2_with fail; go_meet; exact ⟨rfl, had2⟩)
  case rest =>
    obtain ⟨rfl, had⟩ := hcut
    obtain ⟨w3, hw3⟩ : ∃ z : World, wc = z := ⟨_, rfl⟩
    rw [hw3] at had ⊢
    clear hw3
    have hBW2 : w0.heap.size ≤ w2.heap.size := by have := HB2.out.size; omega
    obtain ⟨⟨F', hS3, hF3⟩, hbw3⟩ := HS2.out.advB hBW2 had
    have hFl : ∀ i, F i → i < w1.heap.size := HS1.out.hb.lt
    have hGl : ∀ i, G i → i < w1.heap.size := HS1.out.hq.lt
    have hO3 : w3.ownsRow w1.heap.size 33 3 (.slice a2 n1 d2) n1 (pinsCells xs) := had.chg.row HO2.out fun g hg hf => by have h1 := (HO2.out.lt g hg).1; have h2 := hFl g hf; omega
    have q33 : w3.cell? ⟨q, 3, none⟩ = some (.slice x1 n1 c1) := (had.cell hqw2 hqF).trans q32
    have HS3 := Lib.hid hS3
    have HC3 := Lib.hid ((HC1.out.trans (Chg.of_below (F := fun _ => False) HB2.out) fun _ h => h.elim).trans had.chg fun i hi => Or.inl (Or.inl hi))
    have HBW3 := Lib.hid ((HBW1.out.trans (HB2.out.mono hBW1)).trans hbw3)
    have hs23 := had.chg.size
    have hE : ∀ i, (Value.ownBlock (.slice a2 n1 d2)) = some i → ¬ F' i ∧ ¬ G i ∧ w1.heap.size ≤ i := fun i hi => by
      have h1 := HO2.out.lt i hi
      refine ⟨fun hf => ?_, fun hg => ?_, h1.1⟩
      · rcases hF3 i hf with h2 | h2
        · have := hFl i h2; omega
        · omega
      · have := hGl i hg; omega
    have HEd := Lib.hid hE
    have hT3 : Turns a2 n1 d2 3 1 33 w3 := Turns.ofOwn hO3 fun j hj => pins_a xs j (by rw [HN.out]; exact hj)
    have HT3 := Lib.hid hT3
    have hqw3 : q < w3.heap.size := by omega
    clear had hS3 hF3 hbw3 hFl hGl hO3 hE hT3 z2 q32 HE
    go_upto_block 1 with fail
    go_cut [] (fun wx => Chg (fun i => (Value.ownBlock (.slice a2 n1 d2)) = some i) w3 wx)
    case first =>
      go_wp2_with fail
      go_loopw [31] (fun ix wr => ∃ k : Nat, k ≤ n1 ∧ ix = .int .i64 k ∧ Turns a2 n1 d2 3 1 33 wr ∧ Chg (fun i => (Value.ownBlock (.slice a2 n1 d2)) = some i) w3 wr) (fun ix _ => n1 - (intOf ix).toNat)
      case atStart => exact ⟨0, by omega, rfl, HT3.out, Chg.refl _ _⟩
      case round =>
        obtain ⟨wo, hwo⟩ : ∃ z : World, wr = z := ⟨_, rfl⟩
        obtain ⟨k, hk, rfl, hT, hC⟩ := hrel
        rw [hwo] at hT hC ⊢
        clear hwo
        by_cases hlt : k < n1
        · have HT := Lib.hid hT
          have HC := Lib.hid hC
          rcases hT with h0 | ⟨g, cur, hag, hnd, hh, hj⟩
          · omega
          · obtain ⟨y, hy⟩ := hj k hlt
            have e1 : wo.cell? ⟨g, k * 3 + 1, none⟩ = some (.int .i64 y) := (Lib.cell_of_heap hh _).trans hy
            have e2 := Lib.frozen_of_heap hh (k * 3 + 1)
            have HAG := Lib.hid hag
            subst hag
            clear hh hj hy hC
            go_wp2_with fail
            go_roundw
            case rel => exact ⟨k + 1, by omega, by go_num, HT.out.set rfl _, HC.out.trans (Chg.of_set (F := fun i => (Value.ownBlock (.slice (some ⟨g, 0, none⟩) n1 d2)) = some i) wo _ rfl) fun _ => Or.inl⟩
            case measure => simp [intOf]; omega
        · go_wp2_with fail
          go_meet
          exact hC
    case rest =>
      obtain ⟨w4, hw4⟩ : ∃ z : World, wc = z := ⟨_, rfl⟩
      rw [hw4] at hcut ⊢
      clear hw4
      have hBW3 : w0.heap.size ≤ w3.heap.size := by omega
      obtain ⟨hS4, hb4⟩ := HS3.out.other hBW3 hcut (fun i hi => ⟨(HEd.out i hi).1, (HEd.out i hi).2.1⟩) (fun i hi => by have := (HEd.out i hi).2.2; omega)
      have q34 : w4.cell? ⟨q, 3, none⟩ = some (.slice x1 n1 c1) := (hcut.cell hqw3 (fun hi => by have := (HEd.out q hi).2.2; omega)).trans q33
      have HBW4 := Lib.hid (HBW3.out.trans hb4)
      have hs34 := hcut.size
      obtain ⟨pa4, pc4, z4, zf4, hz4r⟩ := hS4.hq.code
      have hzl4 := hS4.hq.here.2.1
      have hqw4 : q < w4.heap.size := by omega
      have HS4 := Lib.hid hS4
      have HC4 := Lib.hid (HC3.out.trans hcut fun i hi => Or.inr (by have := (HEd.out i hi).2.2; omega))
      rw [HN0.out] at z4 hz4r
      have HZR := Lib.hid hz4r
      obtain ⟨_, _, zcs, zh⟩ := hS4.hq.here
      have HZH := Lib.hid zh
      have hlit4 := mlit w4 33 3 w4.heap.size (Nat.le_refl _)
      have hb40 : Below w4.heap.size w4 (w4.alloc (.cells #[] 33)) := (Below.refl _ _).alloc (Nat.le_refl _) _
      have hbD : Below w4.heap.size w4 (w4.alloc (.cells #[] 33)).drew := hb40.drew
      have hlitD : (w4.alloc (.cells #[] 33)).drew.ownsRow w4.heap.size 33 3 (.slice (some ⟨w4.heap.size, 0, none⟩) 0 0) 0 [] := hlit4
      have HSRC1 : Hid (SrcA (w4.alloc (.cells #[] 33)).drew (.slice pa4 n0 pc4) n0 3 (pinsCells p.code)) := Lib.hid ((SrcA.ofOwn hz4r (pinsCells_one _)).below hbD)
      have hszD : w4.heap.size ≤ (w4.alloc (.cells #[] 33)).drew.heap.size := hbD.size
      have HSRC2 := Lib.hid (SrcA.ins (HA.out w4 HBW4.out) HN.out HNIL.out)
      have hBW4 : w0.heap.size ≤ w4.heap.size := HBW4.out.size
      clear hS4 hb4 hz4r zh q33 hcut
      go_upto_region 11 with fail
      go_region_law (first
        | (refine mstep_append_any rfl (.tmp 44) (.tmp 48) 23 rfl w4.heap.size 33 i0 (.agg #[.int .u8 0, .int .i64 0, .int .i64 0]) 3 24 Tryd.underlying23 hi hz0 hz1 hz2 rfl (by decide) (.slice (some ⟨w4.heap.size, 0, none⟩) 0 0) 0 [] (by simp [Act.eval]) hlitD (.slice pa4 n0 pc4) n0 (pinsCells p.code) (by simp [Act.eval]) HSRC1.out (by unfold maxLen; omega) (by omega) hszD ?_; intro v5 w5 ho5 hg5 hm5; have hb5 : Below w4.heap.size w4 w5 := mbelow_grow hbD hszD hlitD hg5; have HO5 := Lib.hid (mown_cast ho5 (Nat.zero_add n0) (List.nil_append (pinsCells p.code))); have HB5 := Lib.hid hb5; have q35 : w5.cell? ⟨q, 3, none⟩ = some (.slice x1 n1 c1) := (hb5.cell (p := ⟨q, 3, none⟩) hqw4).trans q34; clear ho5 hg5 hm5 hb5)
        | (refine mstep_append_any rfl (.tmp 49) (.tmp 51) 23 rfl w4.heap.size 33 i0 (.agg #[.int .u8 0, .int .i64 0, .int .i64 0]) 3 24 Tryd.underlying23 hi hz0 hz1 hz2 rfl (by decide) _ n0 _ (by simp [Act.eval]) HO5.out _ n1 (pinsCells xs) (by simp [Act.eval]) (HSRC2.out.below HB5.out) (by unfold maxLen; omega) (by omega) HB5.out.size ?_; intro v6 w6 ho6 hg6 hm6; have hb6 : Below w4.heap.size w4 w6 := mbelow_grow HB5.out HB5.out.size HO5.out hg6; obtain ⟨a6, d6, rfl⟩ := own_slice_n ho6; have HO6 := Lib.hid ho6; have HB6 := Lib.hid hb6; have z6 : w6.cell? ⟨z, 0, none⟩ = some (.slice pa4 n0 pc4) := (hb6.cell (p := ⟨z, 0, none⟩) hzl4).trans z4; have zf6 := Lib.frozen_of_heap ((hb6.block z hzl4).trans HZH.out) 0; clear ho6 hg6 hm6 hb6))
      all_goals
        go_wp2_with fail
        go_ret
        refine ⟨rfl, ?_⟩
        obtain ⟨_, _, _, _, _, _, _, hBB⟩ := HS4.out.hq
        have hxx : (pinsCells (p.code ++ xs)) = pinsCells p.code ++ pinsCells xs := by simp [pinsCells]
        have hAD := (hBB.setCode tags_p (Chg.of_below (F := fun _ => False) HB6.out) (fun _ _ => id) (xs := p.code ++ xs) (n := n0 + n1) (by rw [List.length_append, HN0.out, HN.out]) (by rw [hxx]; exact HO6.out) (fun x hx => by rcases List.mem_append.1 hx with h | h; exact hBB.ops x h; exact HOPS.out x h)).adv (Below.refl _ _) fun _ h => h.elim
        obtain ⟨⟨G', hS5, -⟩, hb5⟩ := HS4.out.advQ hBW4 hAD
        exact ⟨⟨_, _, hS5⟩, HBW4.out.trans hb5, HC4.out.trans hAD.chg fun i hi => Or.inl (Or.inr hi)⟩
end Go.Proofs.YtaijdpckkobofaaDoor
