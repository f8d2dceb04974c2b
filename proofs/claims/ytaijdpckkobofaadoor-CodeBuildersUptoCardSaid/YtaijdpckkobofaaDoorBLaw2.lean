/- shallotlaw18.CodeBuilders walked: it returns true. (wip/gen_blaw2.py) -/
import Derived.Test.YtaijdpckkobofaaDoorBLaw1
import Derived.Test.YtaijdpckkobofaaDoorLaw18a
namespace Go.Proofs.YtaijdpckkobofaaDoor
open Go.RowKit
set_option linter.unusedVariables false

def accSz (l : List PAct) (k : Nat) : Nat := 2 * ((l.take k).map PAct.sz).sum
theorem accSz_succ {l : List PAct} {k : Nat} {x : PAct} (h : l[k]? = some x) : accSz l (k + 1) = accSz l k + x.sz + x.sz := by
  unfold accSz
  rw [List.take_add_one, h, List.map_append, List.sum_append]
  simp
  omega
theorem sum_take_le (l : List Nat) (k : Nat) : (l.take k).sum ≤ l.sum := by
  have := List.take_append_drop k l
  rw [← this, List.sum_append]
  simp
theorem accSz_le (l : List PAct) (k : Nat) : accSz l k ≤ 2 * (l.map PAct.sz).sum := by
  unfold accSz
  have := sum_take_le (l.map PAct.sz) k
  rw [← List.map_take] at this
  omega
theorem act_le {l : List PAct} {k : Nat} {x : PAct} (h : l[k]? = some x) : accSz l k + x.sz + x.sz ≤ 2 * (l.map PAct.sz).sum := by
  rw [← accSz_succ h]; exact accSz_le _ _
def P0 : PProg := ⟨[], [], [], [], 0, 0, 0, 0⟩
def P1 : PProg := ⟨[⟨0, 0, 0⟩], [], [], [], 0, 0, 0, 0⟩
theorem emit1 (F : Nat → Prop) (b : Nat) (w : World) (h : Bd F 30 b w P0) (g : Nat) (hl : InsA w (some ⟨g, 0, none⟩) [⟨0, 0, 0⟩]) :
    Calls Tryd.prog 9 #[.pointer (some ⟨b, 0, none⟩), .slice (some ⟨g, 0, none⟩) 1 1] w fun e w' => e = .returned (.int .i64 0) ∧ Adv F 30 b w P1 w' :=
  emit_any F b w P0 h (some ⟨g, 0, none⟩) 1 1 [⟨0, 0, 0⟩] hl rfl (fun e => by cases e) (by decide)
theorem emit2 (F : Nat → Prop) (b : Nat) (w : World) (h : Bd F 30 b w P1) :
    Calls Tryd.prog 9 #[.pointer (some ⟨b, 0, none⟩), .slice none 0 0] w fun e w' => e = .returned (.int .i64 1) ∧ Adv F 30 b w P1 w' :=
  emit_any F b w P1 h none 0 0 [] (fun k x hx => by simp at hx) rfl (fun _ => rfl) (by decide)

set_option maxRecDepth 100000 in
set_option maxHeartbeats 8000000 in
theorem builders_walk (a : Option Addr) (n c : Nat) (l : List PAct) (w : World) (hA : ActsA w a l) (hn : l.length = n) (hsum : (l.map PAct.sz).sum ≤ 2000000) (hnn : n ≤ 2000000) (ht : Pow w) :
    Calls Tryd.prog 3 #[.slice a n c] w fun e w' => e = .returned (.bool true) ∧ Below w.heap.size w w' := by
  obtain ⟨w1, b, hw1, hb⟩ : ∃ w1 b, w.alloc (.cells #[.slice none 0 0, .slice none 0 0, .slice none 0 0, .slice none 0 0, .int .i64 0, .int .i64 0, .int .i64 0, .int .i64 0] 30) = w1 ∧ w.heap.size = b := ⟨_, _, rfl, rfl⟩
  have hb1 : Below w.heap.size w w1 := by rw [← hw1]; exact (Below.refl _ _).alloc (Nat.le_refl _) _
  have hh1 : w1.heap[b]? = some (.cells #[.slice none 0 0, .slice none 0 0, .slice none 0 0, .slice none 0 0, .int .i64 0, .int .i64 0, .int .i64 0, .int .i64 0] 30 (0, 0)) := by rw [← hw1, ← hb]; exact heap_new _ _
  obtain ⟨w2, g, hw2, hg⟩ : ∃ w2 g, w1.alloc (.cells #[.int .u8 0, .int .i64 0, .int .i64 0] 33) = w2 ∧ w1.heap.size = g := ⟨_, _, rfl, rfl⟩
  have hb2 : Below w1.heap.size w1 w2 := by rw [← hw2]; exact (Below.refl _ _).alloc (Nat.le_refl _) _
  have hh2 : w2.heap[g]? = some (.cells #[.int .u8 0, .int .i64 0, .int .i64 0] 33 (0, 0)) := by rw [← hw2, ← hg]; exact heap_new _ _
  have hbd2 : Bd (fun i => i = b) 30 b w2 P0 := (BAt.zero hh1).of_below hb2
  have hins : InsA w2 (some ⟨g, 0, none⟩) [⟨0, 0, 0⟩] := by
    intro k x hx
    match k, hx with
    | 0, hx =>
      simp only [List.getElem?_cons_zero, Option.some.injEq] at hx
      subst hx
      refine ⟨by decide, g, 0, rfl, (Array.getElem?_eq_some_iff.1 hh2).1, fun j v hj => ?_⟩
      rw [Lib.cell_of_heap hh2]
      simpa [PIns.cells] using hj
    | k + 1, hx => simp at hx
  have HE1 := Lib.hid (emit1 _ b w2 hbd2 g hins)
  have hbw2 : Below w.heap.size w w2 := hb1.trans (hb2.mono hb1.size)
  have HB2 := Lib.hid hbw2
  have HA := Lib.hid hA
  have HN := Lib.hid hn
  have HT := Lib.hid ht
  have HSUM := Lib.hid hsum
  have hbw : w.heap.size ≤ b := by omega
  have hbl2 : b < w2.heap.size := hbd2.here.2.1
  have HW1 := Lib.hid hw1
  have HBE := Lib.hid hb
  have HW2 := Lib.hid hw2
  have HGE := Lib.hid hg
  clear hw1 hb hb1 hh1 hw2 hg hb2 hh2 hbd2 hins hbw2 hA hn ht hsum
  go_enter Tryd.func3, Tryd.ntmps3
  go_upto_region 2 with fail
  rw [HW1.out, HBE.out]
  go_wp2_with fail
  rw [HGE.out, HW2.out]
  refine HE1.out.mono ?_
  rintro e w3 ⟨rfl, F3, hbd3, hc3, hf3⟩
  have HE2 := Lib.hid (emit2 F3 b w3 hbd3)
  have hF3 : ∀ i, F3 i → w.heap.size ≤ i := fun i hi => by
    rcases hf3 i hi with h | h
    · rw [h]; exact hbw
    · have := HB2.out.size; omega
  have hbw3 : Below w.heap.size w w3 := HB2.out.trans (hc3.below (fun i hi => by rw [hi]; exact hbw) HB2.out.size)
  have HB3 := Lib.hid hbw3
  clear HW1 HBE HW2 HGE HE1 hbd3 hc3 hf3 hbw3
  go_wp2_with fail
  refine HE2.out.mono ?_
  rintro e w4 ⟨rfl, F4, hbd4, hc4, hf4⟩
  have hbw4 : Below w.heap.size w w4 := HB3.out.trans (hc4.below hF3 HB3.out.size)
  have hF4 : ∀ i, F4 i → w.heap.size ≤ i := fun i hi => by
    rcases hf4 i hi with h | h
    · exact hF3 i h
    · have := HB3.out.size; omega
  have HB4 := Lib.hid hbw4
  obtain ⟨ba, bc, b0, -, -⟩ := hbd4.code
  have b0 : w4.cell? ⟨b, 0, none⟩ = some (.slice ba 1 bc) := b0
  have HBD4 := Lib.hid hbd4
  have HAW := Lib.hid (awake18 w4 (HT.out.below hbw4))
  clear HE2 hbd4 hc4 hf4 hbw4 hF3
  go_wp2_with fail
  refine HAW.out.mono ?_
  rintro e w5 ⟨rfl, hb5⟩
  have hbd5 := HBD4.out.of_below hb5
  obtain ⟨vc, vm, vr, vs, ms, rs, ss, hB5⟩ := hbd5
  have HB5 := Lib.hid (HB4.out.trans (hb5.mono HB4.out.size))
  obtain ⟨ca, cc, ma, mc, ra, rc, sa, sc, rfl, rfl, rfl, rfl⟩ := hB5.sl
  obtain ⟨e0, e1, e2, e3, e4, e5, e6, e7⟩ := hB5.cell
  have f0 := Lib.frozen_of_heap hB5.here 0
  have f1 := Lib.frozen_of_heap hB5.here 1
  have f2 := Lib.frozen_of_heap hB5.here 2
  have f3 := Lib.frozen_of_heap hB5.here 3
  have f4 := Lib.frozen_of_heap hB5.here 4
  have f5 := Lib.frozen_of_heap hB5.here 5
  have f6 := Lib.frozen_of_heap hB5.here 6
  have f7 := Lib.frozen_of_heap hB5.here 7
  obtain ⟨w6, hw6⟩ : ∃ w6, ((((((((w5.setCell ⟨b, 0, none⟩ (.slice none 0 0)).setCell ⟨b, 1, none⟩ (.slice none 0 0)).setCell ⟨b, 2, none⟩ (.slice none 0 0)).setCell ⟨b, 3, none⟩ (.slice none 0 0)).setCell ⟨b, 4, none⟩ (.int .i64 0)).setCell ⟨b, 5, none⟩ (.int .i64 0)).setCell ⟨b, 6, none⟩ (.int .i64 0)).setCell ⟨b, 7, none⟩ (.int .i64 0)) = w6 := ⟨_, rfl⟩
  have hh6 : w6.heap[b]? = some (.cells #[.slice none 0 0, .slice none 0 0, .slice none 0 0, .slice none 0 0, .int .i64 0, .int .i64 0, .int .i64 0, .int .i64 0] 30 (0, 0)) := by rw [← hw6]; exact set8_heap hB5.here _ _ _ _ _ _ _ _
  have hs6 : w6.heap.size = w5.heap.size := by rw [← hw6]; simp [World.setCell]
  have hb6 : Below w.heap.size w w6 := by rw [← hw6]; exact below_setR HB5.out hbw _ _ _ _ _ _ _ _
  obtain ⟨w7, z, hw7, hz⟩ : ∃ w7 z, w6.alloc (.cells #[.slice none 0 0, .slice none 0 0, .slice none 0 0, .slice none 0 0, .int .i64 0, .int .i64 0, .int .i64 0, .int .i64 0] 28) = w7 ∧ w6.heap.size = z := ⟨_, _, rfl, rfl⟩
  have hb7 : Below w6.heap.size w6 w7 := by rw [← hw7]; exact (Below.refl _ _).alloc (Nat.le_refl _) _
  have hh7 : w7.heap[z]? = some (.cells #[.slice none 0 0, .slice none 0 0, .slice none 0 0, .slice none 0 0, .int .i64 0, .int .i64 0, .int .i64 0, .int .i64 0] 28 (0, 0)) := by rw [← hw7, ← hz]; exact heap_new _ _
  have hbl6 : b < w6.heap.size := (Array.getElem?_eq_some_iff.1 hh6).1
  have hst : St2 w.heap.size b z w7 P0 P0 (fun i => i = b) (fun i => i = z) := ⟨(BAt.zero hh6).of_below hb7, BAt.zero hh7, fun i h1 h2 => by omega, fun i h => by omega, fun i h => by have := hb6.size; omega⟩
  have HBO : Hid (Both w b z (accSz l 0) w7) := Lib.hid ⟨⟨P0, _, _, hst, Sz.zero⟩, hb6.trans (hb7.mono hb6.size)⟩
  have HW6 := Lib.hid hw6
  have HW7 := Lib.hid hw7
  have HZ := Lib.hid hz
  clear hb5 hB5 hw6 hh6 hs6 hb6 hw7 hz hb7 hh7 hbl6 hst b0 HBD4 HAW hF4 HB2 HB3 HB4 HB5
  go_upto_region 5 with fail
  rw [HW6.out]
  clear HW6 e0 e1 e2 e3 e4 e5 e6 e7 f0 f1 f2 f3 f4 f5 f6 f7
  go_upto_region 6 with fail
  rw [HW7.out, HZ.out]
  clear HW7 HZ
  go_wp2_with fail
  go_loopw [29] (fun ix wr => ∃ k : Nat, k ≤ n ∧ ix = .int .i64 k ∧ Both w b z (accSz l k) wr) (fun ix _ => n - (intOf ix).toNat)
  case atStart => exact ⟨0, by omega, rfl, HBO.out⟩
  case round =>
    obtain ⟨wo, hwo⟩ : ∃ y : World, wr = y := ⟨_, rfl⟩
    obtain ⟨k, hk, rfl, hbo⟩ := hrel
    rw [hwo] at hbo ⊢
    clear hwo
    obtain ⟨⟨p, F, G, hst, hsz⟩, hbel⟩ := hbo
    by_cases hlt : k < n
    · obtain ⟨x, hx⟩ : ∃ x, l[k]? = some x := ⟨_, List.getElem?_eq_getElem (by rw [HN.out]; exact hlt)⟩
      obtain ⟨x1, x2, x3, x4, c1, c2, c3, c4, hact, gg, o, ha, hgg, hcell⟩ := HA.out k x hx
      have hbig := act_le hx
      have HSC := Lib.hid (accSz_succ hx)
      have hmono : accSz l k + x.sz + x.sz ≤ 4194304 := by have := HSUM.out; omega
      have HP8 := Lib.hid (fun (w8 : World) (hW : Below wo.heap.size wo w8) => lputs_any b z (accSz l k) x.sz w w8 p F G (hst.below hW) hsz (hbel.trans (hW.mono hbel.size)) x x1 x2 x3 x4 c1 c2 c3 c4 hact (Nat.le_refl _) (by omega))
      have HN8 := Lib.hid (fun (w9 : World) (p : PProg) (F G : Nat → Prop) (h : St2 w.heap.size b z w9 p p F G) (hs : Sz (accSz l k + x.sz) p) (hw : Below w.heap.size w w9) => lnames_any b z (accSz l k + x.sz) x.sz w w9 p F G h hs hw x x1 x2 x3 x4 c1 c2 c3 c4 hact (Nat.le_refl _) hmono)
      obtain ⟨sz, hszx⟩ : ∃ s, x.sz = s := ⟨_, rfl⟩
      unfold PAct.cells at hcell
      obtain ⟨kd, hkd⟩ : ∃ y, x.kind = y := ⟨_, rfl⟩
      obtain ⟨at_, hat⟩ : ∃ y, x.at_ = y := ⟨_, rfl⟩
      obtain ⟨tv, htv⟩ : ∃ y, x.tv = y := ⟨_, rfl⟩
      obtain ⟨l1, hl1⟩ : ∃ y, x.code.length = y := ⟨_, rfl⟩
      obtain ⟨l2, hl2⟩ : ∃ y, x.text.length = y := ⟨_, rfl⟩
      obtain ⟨l3, hl3⟩ : ∃ y, x.stops.length = y := ⟨_, rfl⟩
      obtain ⟨mg, hmg⟩ : ∃ y, x.spec.msg = y := ⟨_, rfl⟩
      obtain ⟨l4, hl4⟩ : ∃ y, x.spec.routes.length = y := ⟨_, rfl⟩
      obtain ⟨bk, hbk⟩ : ∃ y, x.spec.block = y := ⟨_, rfl⟩
      rw [hkd, hat, htv, hl1, hl2, hl3, hmg, hl4, hbk] at hcell
      rw [hkd, hat, htv, hl1, hl2, hl3, hmg, hl4, hbk, hszx] at HP8 HN8
      rw [hszx] at HSC hmono
      have d0 : wo.cell? ⟨gg, o + k * 9, none⟩ = some (.int .i64 kd) := (hbel.cell (p := ⟨gg, _, none⟩) hgg).trans (hcell 0 _ rfl)
      have d1 : wo.cell? ⟨gg, o + k * 9 + 1, none⟩ = some (.int .i64 at_) := (hbel.cell (p := ⟨gg, _, none⟩) hgg).trans (hcell 1 _ rfl)
      have d2 : wo.cell? ⟨gg, o + k * 9 + 2, none⟩ = some (.int .i64 tv) := (hbel.cell (p := ⟨gg, _, none⟩) hgg).trans (hcell 2 _ rfl)
      have d3 : wo.cell? ⟨gg, o + k * 9 + 3, none⟩ = some (.slice x1 l1 c1) := (hbel.cell (p := ⟨gg, _, none⟩) hgg).trans (hcell 3 _ rfl)
      have d4 : wo.cell? ⟨gg, o + k * 9 + 4, none⟩ = some (.slice x2 l2 c2) := (hbel.cell (p := ⟨gg, _, none⟩) hgg).trans (hcell 4 _ rfl)
      have d5 : wo.cell? ⟨gg, o + k * 9 + 5, none⟩ = some (.slice x3 l3 c3) := (hbel.cell (p := ⟨gg, _, none⟩) hgg).trans (hcell 5 _ rfl)
      have d6 : wo.cell? ⟨gg, o + k * 9 + 6, none⟩ = some (.int .i64 mg) := (hbel.cell (p := ⟨gg, _, none⟩) hgg).trans (hcell 6 _ rfl)
      have d7 : wo.cell? ⟨gg, o + k * 9 + 7, none⟩ = some (.slice x4 l4 c4) := (hbel.cell (p := ⟨gg, _, none⟩) hgg).trans (hcell 7 _ rfl)
      have d8 : wo.cell? ⟨gg, o + k * 9 + 8, none⟩ = some (.int .i64 bk) := (hbel.cell (p := ⟨gg, _, none⟩) hgg).trans (hcell 8 _ rfl)
      subst ha
      obtain ⟨w8, r, hw8, hr⟩ : ∃ w8 r, wo.alloc (.cells #[.int .i64 kd, .int .i64 at_, .int .i64 tv, .slice x1 l1 c1, .slice x2 l2 c2, .slice x3 l3 c3, .int .i64 mg, .slice x4 l4 c4, .int .i64 bk] 41) = w8 ∧ wo.heap.size = r := ⟨_, _, rfl, rfl⟩
      have hb8 : Below wo.heap.size wo w8 := by rw [← hw8]; exact (Below.refl _ _).alloc (Nat.le_refl _) _
      have hh8 : w8.heap[r]? = some (.cells #[.int .i64 kd, .int .i64 at_, .int .i64 tv, .slice x1 l1 c1, .slice x2 l2 c2, .slice x3 l3 c3, .int .i64 mg, .slice x4 l4 c4, .int .i64 bk] 41 (0, 0)) := by rw [← hw8, ← hr]; exact heap_new _ _
      have hrl : r < w8.heap.size := (Array.getElem?_eq_some_iff.1 hh8).1
      have hrF : ¬ F r := fun h => by have := hst.hb.lt r h; omega
      have hrG : ¬ G r := fun h => by have := hst.hq.lt r h; omega
      have HPC := Lib.hid (HP8.out w8 hb8)
      have HH8 := Lib.hid hh8
      have HW8 := Lib.hid hw8
      have HRE := Lib.hid hr
      have HX := Lib.hid hx
      have e0 : w8.cell? ⟨r, 0, none⟩ = some (.int .i64 kd) := (Lib.cell_of_heap hh8 _).trans rfl
      have e1 : w8.cell? ⟨r, 1, none⟩ = some (.int .i64 at_) := (Lib.cell_of_heap hh8 _).trans rfl
      have e2 : w8.cell? ⟨r, 2, none⟩ = some (.int .i64 tv) := (Lib.cell_of_heap hh8 _).trans rfl
      have e3 : w8.cell? ⟨r, 3, none⟩ = some (.slice x1 l1 c1) := (Lib.cell_of_heap hh8 _).trans rfl
      have e4 : w8.cell? ⟨r, 4, none⟩ = some (.slice x2 l2 c2) := (Lib.cell_of_heap hh8 _).trans rfl
      have e5 : w8.cell? ⟨r, 5, none⟩ = some (.slice x3 l3 c3) := (Lib.cell_of_heap hh8 _).trans rfl
      have e6 : w8.cell? ⟨r, 6, none⟩ = some (.int .i64 mg) := (Lib.cell_of_heap hh8 _).trans rfl
      have e7 : w8.cell? ⟨r, 7, none⟩ = some (.slice x4 l4 c4) := (Lib.cell_of_heap hh8 _).trans rfl
      have e8 : w8.cell? ⟨r, 8, none⟩ = some (.int .i64 bk) := (Lib.cell_of_heap hh8 _).trans rfl
      clear hbig hcell hact hx hkd hat htv hl1 hl2 hl3 hmg hl4 hbk hszx hw8 hr hb8 hh8 hst hsz hbel HP8
      go_upto_region 9 with fail
      rw [HW8.out, HRE.out]
      clear HW8 HRE d0 d1 d2 d3 d4 d5 d6 d7 d8
      go_wp2_with fail
      refine HPC.out.mono ?_
      rintro e w9 ⟨rfl, ⟨⟨p9, F9, G9, hst9, hsz9⟩, hbel9⟩, hcg⟩
      have hh9 := (hcg.block r hrl (fun h => by rcases h with h | h; exact hrF h; exact hrG h)).trans HH8.out
      have HNC := Lib.hid (HN8.out w9 p9 F9 G9 hst9 hsz9 hbel9)
      clear e0 e1 e2 e3 e4 e5 e6 e7 e8
      have e0 : w9.cell? ⟨r, 0, none⟩ = some (.int .i64 kd) := (Lib.cell_of_heap hh9 _).trans rfl
      have e1 : w9.cell? ⟨r, 1, none⟩ = some (.int .i64 at_) := (Lib.cell_of_heap hh9 _).trans rfl
      have e2 : w9.cell? ⟨r, 2, none⟩ = some (.int .i64 tv) := (Lib.cell_of_heap hh9 _).trans rfl
      have e3 : w9.cell? ⟨r, 3, none⟩ = some (.slice x1 l1 c1) := (Lib.cell_of_heap hh9 _).trans rfl
      have e4 : w9.cell? ⟨r, 4, none⟩ = some (.slice x2 l2 c2) := (Lib.cell_of_heap hh9 _).trans rfl
      have e5 : w9.cell? ⟨r, 5, none⟩ = some (.slice x3 l3 c3) := (Lib.cell_of_heap hh9 _).trans rfl
      have e6 : w9.cell? ⟨r, 6, none⟩ = some (.int .i64 mg) := (Lib.cell_of_heap hh9 _).trans rfl
      have e7 : w9.cell? ⟨r, 7, none⟩ = some (.slice x4 l4 c4) := (Lib.cell_of_heap hh9 _).trans rfl
      have e8 : w9.cell? ⟨r, 8, none⟩ = some (.int .i64 bk) := (Lib.cell_of_heap hh9 _).trans rfl
      clear hh9 hcg hst9 hsz9 hbel9 HPC HN8
      go_wp2_with fail
      refine HNC.out.mono ?_
      rintro e w10 ⟨rfl, ⟨⟨p10, F10, G10, hst10, hsz10⟩, hbel10⟩, -⟩
      clear e0 e1 e2 e3 e4 e5 e6 e7 e8 HNC
      have HST := Lib.hid hst10
      have HSZ := Lib.hid hsz10
      have HBL := Lib.hid hbel10
      obtain ⟨vc, vm, vr, vs, ms, rs, ss, hX⟩ := hst10.hb
      obtain ⟨ca, cc, ma, mc, ra, rc, sa, sc, rfl, rfl, rfl, rfl⟩ := hX.sl
      obtain ⟨yc, ym, yr, ys, ms2, rs2, ss2, hY⟩ := hst10.hq
      obtain ⟨da, dc, ea, ec, fa, fc, ga, gc, rfl, rfl, rfl, rfl⟩ := hY.sl
      have hsz11 := hsz10.mono (show _ ≤ 4194304 by omega)
      have HSM := Lib.hid (rsame p10 ca ma ra sa cc mc rc sc da ea fa ga dc ec fc gc w10 (hX.prgA hsz11 (by omega)) (hY.prgA hsz11 (by omega)) fun m hm => by have := hsz11.2.1 m hm; omega)
      unfold prgV at HSM
      obtain ⟨m1, m2, m3, m4⟩ := hX.nums
      rw [m1, m2, m3, m4] at HSM
      obtain ⟨s0, s1, s2, s3, s4, s5, s6, s7⟩ := hX.cell
      obtain ⟨t0, t1, t2, t3, t4, t5, t6, t7⟩ := hY.cell
      have hbl10 := hX.blt
      have hzl10 := hY.blt
      obtain ⟨q0, hq0⟩ : ∃ y, p10.code.length = y := ⟨_, rfl⟩
      obtain ⟨q1, hq1⟩ : ∃ y, p10.msgs.length = y := ⟨_, rfl⟩
      obtain ⟨q2, hq2⟩ : ∃ y, p10.routes.length = y := ⟨_, rfl⟩
      obtain ⟨q3, hq3⟩ : ∃ y, p10.sends.length = y := ⟨_, rfl⟩
      rw [hq0] at s0 t0
      rw [hq1] at s1 t1
      rw [hq2] at s2 t2
      rw [hq3] at s3 t3
      rw [hq0, hq1, hq2, hq3] at HSM
      clear hst10 hsz10 hbel10 hX hY hsz11 m1 m2 m3 m4 hq0 hq1 hq2 hq3
      go_wp2_with fail
      refine HSM.out.mono ?_
      rintro e w11 ⟨rfl, hb11⟩
      have u0 : w11.cell? ⟨b, 0, none⟩ = some (.slice ca q0 cc) := (hb11.cell (p := ⟨b, 0, none⟩) hbl10).trans s0
      have u1 : w11.cell? ⟨z, 0, none⟩ = some (.slice da q0 dc) := (hb11.cell (p := ⟨z, 0, none⟩) hzl10).trans t0
      have HBO2 : Hid (Both w b z (accSz l (k + 1)) w11) := Lib.hid ⟨⟨p10, F10, G10, HST.out.below hb11, by rw [HSC.out]; exact HSZ.out⟩, HBL.out.trans (hb11.mono HBL.out.size)⟩
      clear hb11 s0 s1 s2 s3 s4 s5 s6 s7 t0 t1 t2 t3 t4 t5 t6 t7 HSM
      go_wp2_with fail
      go_roundw
      case rel => exact ⟨k + 1, by omega, by go_num, HBO2.out⟩
      case measure => simp [intOf]; omega
    · go_wp2_with fail
      go_ret
      exact ⟨rfl, hbel⟩
end Go.Proofs.YtaijdpckkobofaaDoor
