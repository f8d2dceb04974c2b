/- lex: Quote. -/
import Derived.Test.YtaijdpckkobofaaDoorFmt16
import Derived.Test.YtaijdpckkobofaaDoorLex4
namespace Go.Proofs.YtaijdpckkobofaaDoor
open Go.RowKit
set_option linter.unusedVariables false

/-- bytes at an address -/
def ByA (w : World) (a : Option Addr) (l : List UInt8) : Prop := ∀ (k : Nat) (x : UInt8), l[k]? = some x → ∃ g o, a = some ⟨g, o, none⟩ ∧ g < w.heap.size ∧ w.cell? ⟨g, o + k, none⟩ = some (.int .u8 (x.toNat : Int))
theorem ByA.below {w w' : World} {a : Option Addr} {l : List UInt8} (h : ByA w a l) (k : Below w.heap.size w w') : ByA w' a l := by
  intro i x hx
  obtain ⟨g, o, ha, hg, hc⟩ := h i x hx
  exact ⟨g, o, ha, Nat.lt_of_lt_of_le hg k.size, (k.cell (p := ⟨g, _, none⟩) hg).trans hc⟩
theorem ByIn.at {w : World} {v : Value} {l : List UInt8} (h : ByIn w v l) : ∃ a c, v = .slice a l.length c ∧ ByA w a l := by
  rcases h with ⟨rfl, a, c, rfl⟩ | ⟨g, o, c, rfl, _, hg, hc⟩
  · exact ⟨a, c, rfl, fun k x hx => by simp at hx⟩
  · exact ⟨some ⟨g, o, none⟩, c, rfl, fun k x hx => ⟨g, o, rfl, hg, hc k x hx⟩⟩

theorem own_new (w : World) (B n : Nat) (cs : List Value) (h : cs.length = n) (hB : B ≤ w.heap.size) (hn : n ≤ maxLen) : (w.alloc (.cells cs.toArray 5)).ownsRow B 5 1 (.slice (some ⟨w.heap.size, 0, none⟩) n n) n cs := by
  refine ⟨by omega, Or.inr ⟨w.heap.size, n, cs.toArray, rfl, hB, heap_new _ _, Nat.le_refl _, hn, by simp [h], ?_⟩⟩
  rw [Nat.mul_one, ← h]
  simp

theorem two_cell (x y : Int) : ∀ u ∈ [Value.int .u8 x, .int .u8 y], u.oneCell' = true := fun u hu => by
  simp at hu
  rcases hu with rfl | rfl <;> rfl
theorem below_grow {B : Nat} {w0 w w1 : World} {e : TypeId} {size : Nat} {v : Value} {n : Nat} {xs : List Value} (h : Below B w0 w) (hB : B ≤ w.heap.size) (hown : w.ownsRow B e size v n xs) (hg : w.grownBy w1 v.ownBlock) : Below B w0 w1 :=
  h.grown hg hB (fun k hk => (hown.lt k hk).1)

theorem own_cast {w : World} {B : Nat} {e : TypeId} {size : Nat} {v : Value} {n n' : Nat} {xs xs' : List Value} (h : w.ownsRow B e size v n xs) (hn : n = n') (hx : xs = xs') : w.ownsRow B e size v n' xs' := by
  subst hn hx; exact h

/-- so far quoted -/
def Quoted (l : List UInt8) (k : Nat) (acc : List UInt8) : Prop := acc = 34 :: (l.take k).flatMap qByte
theorem Quoted.step {l : List UInt8} {k : Nat} {acc : List UInt8} {x : UInt8} (h : Quoted l k acc) (hx : l[k]? = some x) : Quoted l (k + 1) (acc ++ qByte x) := by
  unfold Quoted at *
  rw [h, List.take_add_one, hx]
  simp
theorem cells_app (acc : List UInt8) (r : List UInt8) (vs : List Value) (h : vs = Lib.byteCells r) : Lib.byteCells acc ++ vs = Lib.byteCells (acc ++ r) := by
  subst h; simp [Lib.byteCells]
theorem tz_below {B : Nat} {w w' : World} (h : w.cell? ⟨6, 15, none⟩ = some (.int .u8 4)) (k : Below w.heap.size w w') : w'.cell? ⟨6, 15, none⟩ = some (.int .u8 4) :=
  (k.cell (World.block_lt_of_cell? w _ h)).trans h

set_option maxRecDepth 100000 in
set_option maxHeartbeats 4000000 in
theorem quote_at (a : Option Addr) (c : Nat) (l : List UInt8) (w : World) (h : ByA w a l) (hl : l.length ≤ 1000000000) (ht : w.cell? ⟨6, 15, none⟩ = some (.int .u8 4)) :
    Calls Tryd.prog 29 #[.slice a l.length c] w fun e w' => e = .returned (.string ⟨(quoteOf l).toArray⟩) ∧ Below w.heap.size w w' := by
  obtain ⟨i0, hi, hz0, hz1, hz2⟩ := info_parts info_u8
  have HZ : Hid (∀ W, Below w.heap.size w W → W.cell? ⟨6, 15, none⟩ = some (.int .u8 4)) := Lib.hid fun W k => tz_below (B := 0) ht k
  have HA := Lib.hid h
  clear ht h
  go_enter Tryd.func29, Tryd.ntmps29
  go_wp2_with fail
  go_loopw [3, 10] (fun v i wr => ∃ (k m : Nat) (acc : List UInt8), k ≤ l.length ∧ i = .int .i64 k ∧ wr.ownsRow w.heap.size 5 1 v m (Lib.byteCells acc) ∧ Below w.heap.size w wr ∧ m ≤ 4 * k + 1 ∧ Quoted l k acc) (fun _ i _ => l.length - (intOf i).toNat)
  case atStart => exact ⟨0, 1, [34], Nat.zero_le _, rfl, own_new w _ 1 [.int .u8 34] rfl (Nat.le_refl _) (by unfold maxLen; omega), (Below.refl _ _).alloc (Nat.le_refl _) _, by omega, rfl⟩
  case round =>
    obtain ⟨k, m, acc, hk, rfl, hown, hbel, hm, hq⟩ := hrel
    have hsz := hbel.size
    have HQ := Lib.hid hq
    clear hq
    by_cases hlt : k < l.length
    · obtain ⟨x, hx⟩ : ∃ x, l[k]? = some x := ⟨_, List.getElem?_eq_getElem hlt⟩
      obtain ⟨g, o, rfl, hg, hc⟩ := (HA.out.below hbel) k x hx
      have HQ1 := Lib.hid (HQ.out.step hx)
      have hu8 := x.toNat_lt
      have HX : Hid (qByte x = if x.toNat = 34 ∨ x.toNat = 92 then [92, x] else if x.toNat = 10 then [92, 110] else if x.toNat < 32 ∨ 126 < x.toNat then [92, 120, hexd (x.toNat / 16), hexd (x.toNat % 16)] else [x]) := Lib.hid rfl
      have HC : Hid (Lib.byteCells [x] = [.int .u8 (x.toNat : Int)]) := Lib.hid rfl
      have HC2 : Hid (Lib.byteCells [92, x] = [.int .u8 92, .int .u8 (x.toNat : Int)]) := Lib.hid rfl
      obtain ⟨u, hu⟩ : ∃ u, x.toNat = u := ⟨_, rfl⟩
      rw [hu] at hc hu8 HX HC HC2
      clear hx hu
      by_cases h34 : u = 34 ∨ u = 92
      · rw [if_pos h34] at HX
        rcases h34 with rfl | rfl
        all_goals
          go_wp2_with (first | (at_builtin; refine wpList_append_own _ rfl (.tmp 25) (.tmp 27) 35 rfl w.heap.size 5 i0 (.int .u8 0) 1 1 Tryd.underlying35 hi hz0 hz1 hz2 rfl (by decide) _ m _ rfl (hown.alloc _) ⟨wr.heap.size, 0, none⟩ 2 2 [.int .u8 92, _] rfl rfl (cells_new _ [_, _] _) (two_cell _ _) (by unfold maxLen; omega) (by omega) (by rw [World.size_alloc]; omega) ?_; intro v' w9 hown9 hgrow _; have hbel9 := below_app hbel hsz hown hgrow))
          go_roundw
          case rel => exact ⟨k + 1, m + 2, acc ++ qByte x, by omega, by go_num, by rw [HX.out, ← cells_app acc [92, x] _ HC2.out.symm]; exact hown9, hbel9, by omega, HQ1.out⟩
          case measure => simp [intOf]; omega
      · rw [if_neg h34] at HX
        have e34 : ((u : Int) == 34) = false := by rw [beq_eq_false_iff_ne]; omega
        have e92 : ((u : Int) == 92) = false := by rw [beq_eq_false_iff_ne]; omega
        clear h34
        by_cases h10 : u = 10
        · rw [if_pos h10] at HX
          subst h10
          go_wp2_with (first | (at_builtin; refine Lib.wpList_append_own_string _ rfl (.tmp 32) (.const (.string ⟨#[92, 110]⟩)) 35 9 rfl w.heap.size 5 i0 Tryd.underlying35 Tryd.underlying9 hi hz0 hz1 hz2 _ m _ rfl hown ⟨#[92, 110]⟩ rfl (by show m + 2 ≤ _; unfold maxLen; omega) (by show m + 2 ≤ _; omega) hsz ?_; intro v' w9 hown9 hgrow _; have hbel9 := below_grow hbel hsz hown hgrow))
          go_roundw
          case rel => exact ⟨k + 1, m + 2, acc ++ qByte x, by omega, by go_num, by rw [HX.out, ← cells_app acc [92, 110] _ rfl]; exact hown9, hbel9, by omega, HQ1.out⟩
          case measure => simp [intOf]; omega
        · rw [if_neg h10] at HX
          have e10 : ((u : Int) == 10) = false := by rw [beq_eq_false_iff_ne]; omega
          clear h10
          by_cases hbad : u < 32 ∨ 126 < u
          · rw [if_pos hbad] at HX
            have HF : Hid (∀ W, Below w.heap.size w W → ∀ y : Int, y = (u : Int) + 256 → Calls Tryd.prog 70 #[.int .u64 y, .int .i64 16] W fun e w' => e = .returned (.string ⟨#[49, hexd (u / 16), hexd (u % 16)]⟩) ∧ Below W.heap.size W w') := Lib.hid fun W hW y hy => formatUint16 u y hu8 hy W (HZ.out W hW)
            have he1 : (⟨#[49, hexd (u / 16), hexd (u % 16)]⟩ : ByteArray).extract 1 3 = ⟨#[hexd (u / 16), hexd (u % 16)]⟩ := ba_ext (by rw [Lib.extract_data]; rfl)
            generalize hexd (u / 16) = ha at *
            generalize hexd (u % 16) = hb at *
            obtain ⟨hh, hhe⟩ : ∃ hh : ByteArray, (⟨#[49, ha, hb]⟩ : ByteArray) = hh := ⟨_, rfl⟩
            have hsz3 : hh.size = 3 := by rw [← hhe]; rfl
            obtain ⟨tl, htl⟩ : ∃ tl : ByteArray, hh.extract 1 3 = tl := ⟨_, rfl⟩
            have HT : Hid (Lib.strCells tl = Lib.byteCells [ha, hb] ∧ tl.size = 2) := Lib.hid (by rw [← htl, ← hhe, he1]; exact ⟨rfl, rfl⟩)
            rw [hhe] at HF
            clear he1 hhe
            rcases hbad with hbad | hbad
            all_goals
              go_wp2_with fail
              refine (HF.out _ hbel _ rfl).mono ?_
              rintro e w2 ⟨rfl, hb2⟩
              have hown2 := ownsRow_old hown hb2
              have hbel2 := hbel.trans (hb2.mono hsz)
              have hsz2 : w.heap.size ≤ w2.heap.size := hbel2.size
              clear hb2
              go_upto_region 12 with fail
              go_region_law (first | (refine step_append_str rfl (.tmp 45) (.const (.string ⟨#[92, 120]⟩)) 35 9 rfl w.heap.size 5 i0 Tryd.underlying35 Tryd.underlying9 hi hz0 hz1 hz2 _ m _ (by simp [Act.eval, Act.put]) hown2 ⟨#[92, 120]⟩ (by simp [Act.eval]) (by show m + 2 ≤ _; unfold maxLen; omega) (by show m + 2 ≤ _; omega) hsz2 ?_; intro v9 w9 hown9 hgrow9; have hbel9 := below_grow (Below.drew hbel2) hsz2 hown2 hgrow9) | (refine step_append_str rfl (.tmp 46) (.tmp 48) 35 9 rfl w.heap.size 5 i0 Tryd.underlying35 Tryd.underlying9 hi hz0 hz1 hz2 _ _ _ (by simp [Act.eval]) hown9 tl (by simp [Act.eval]) (by rw [HT.out.2]; show m + 2 + 2 ≤ _; unfold maxLen; omega) (by rw [HT.out.2]; show m + 2 + 2 ≤ _; omega) hbel9.size ?_; intro v10 w10 hown10 hgrow10; have hbel10 := below_grow hbel9 hbel9.size hown9 hgrow10))
              all_goals
                have hown3 := own_cast (n' := m + 4) (xs' := Lib.byteCells (acc ++ [92, 120, ha, hb])) hown10 (by rw [HT.out.2]; rfl) (by rw [HT.out.1]; simp [Lib.strCells, Lib.byteCells])
                clear hown10 hown9 hown2
                go_wp2_with fail
                go_roundw
                case rel => exact ⟨k + 1, m + 4, acc ++ qByte x, by omega, by go_num, by rw [HX.out]; exact hown3, hbel10, by omega, HQ1.out⟩
                case measure => simp [intOf]; omega
          · rw [if_neg hbad] at HX
            have hlo : 32 ≤ (u : Int) := by omega
            have hhi : (u : Int) ≤ 126 := by omega
            clear hbad
            go_wp2_with (first | (at_builtin; refine wpList_append_own _ rfl (.tmp 14) (.tmp 16) 35 rfl w.heap.size 5 i0 (.int .u8 0) 1 1 Tryd.underlying35 hi hz0 hz1 hz2 rfl (by decide) _ m _ rfl (hown.alloc _) ⟨wr.heap.size, 0, none⟩ 1 1 [_] rfl rfl (cell_one_new _ _ _) (one_cell _ rfl) (by unfold maxLen; omega) (by omega) (by rw [World.size_alloc]; omega) ?_; intro v' w9 hown9 hgrow _; have hbel9 := below_app hbel hsz hown hgrow))
            go_roundw
            case rel => exact ⟨k + 1, m + 1, acc ++ qByte x, by omega, by go_num, by rw [HX.out, ← cells_app acc [x] _ HC.out.symm]; exact hown9, hbel9, by omega, HQ1.out⟩
            case measure => simp [intOf]; omega
    · have HE : Hid (acc ++ [34] = quoteOf l) := Lib.hid (by
        have := HQ.out
        unfold Quoted at this
        rw [this, List.take_of_length_le (by omega)]
        rfl)
      go_wp2_with (first | (at_builtin; refine wpList_append_own _ rfl (.tmp 51) (.tmp 52) 35 rfl w.heap.size 5 i0 (.int .u8 0) 1 1 Tryd.underlying35 hi hz0 hz1 hz2 rfl (by decide) _ m _ rfl (hown.alloc _) ⟨wr.heap.size, 0, none⟩ 1 1 [_] rfl rfl (cell_one_new _ _ _) (one_cell _ rfl) (by unfold maxLen; omega) (by omega) (by rw [World.size_alloc]; omega) ?_; intro v' w9 hown9 hgrow _; have hbel9 := below_app hbel hsz hown hgrow; have hcv := conv_own (own_cast hown9 rfl ((cells_app acc [34] _ rfl).trans (congrArg Lib.byteCells HE.out)))))
      go_ret
      exact ⟨rfl, hbel9⟩
end Go.Proofs.YtaijdpckkobofaaDoor
