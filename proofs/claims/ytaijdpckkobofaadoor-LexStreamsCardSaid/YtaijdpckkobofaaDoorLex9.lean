/- lex: text. (wip/gen_lex9.py) -/
import Derived.Test.YtaijdpckkobofaaDoorLex6
import Derived.Test.YtaijdpckkobofaaDoorLex8
import Derived.Test.YtaijdpckkobofaaDoorBld
namespace Go.Proofs.YtaijdpckkobofaaDoor
open Go.RowKit
set_option linter.unusedVariables false

theorem ownsRowF_old {w w' : World} {B : Nat} {e : TypeId} {size : Nat} {v : Value} {n : Nat} {xs : List Value} (h : w.ownsRowF B e size v n xs) (hb : Below w.heap.size w w') : w'.ownsRowF B e size v n xs := by
  obtain ⟨h1, h2⟩ := h
  refine ⟨h1, ?_⟩
  rcases h2 with h2 | ⟨g, cap, cur, fz, hv, hg, hh, r⟩
  · exact .inl h2
  · refine .inr ⟨g, cap, cur, fz, hv, hg, ?_, r⟩
    have : g < w.heap.size := by
      rcases Nat.lt_or_ge g w.heap.size with h' | h'
      · exact h'
      · rw [Array.getElem?_eq_none h'] at hh; cases hh
    rw [hb.block g this]; exact hh
theorem IsBd.old {B b : Nat} {bs : List Value} {w w' : World} (h : IsBd B b bs w) (k : Below w.heap.size w w') : IsBd B b bs w' := by
  rcases h with h | h
  · have hlt := h.lt
    obtain ⟨hB, v, hb, ho, hn⟩ := h
    exact Or.inl ⟨hB, v, by rw [k.block b hlt]; exact hb, ownsRowF_old ho k, hn⟩
  · have hlt := h.lt
    obtain ⟨hB, v, hb, ho, hn⟩ := h
    exact Or.inr ⟨hB, v, by rw [k.block b hlt]; exact hb, ownsRowF_old ho k, hn⟩
theorem IsBd.new (w : World) : IsBd w.heap.size w.heap.size [] (w.alloc (.cells #[.pointer none, .slice none 0 0] 193)) :=
  Or.inl ⟨Nat.le_refl _, _, heap_new _ _, World.ownsRowF_of (World.ownsRow_nil _ _ _ _), by simp [Value.ownBlock]⟩

theorem escOf_extract {s : ByteArray} {k : Nat} : escOf (s.extract k s.size) 0 = escOf s k := by
  have hs : (s.extract k s.size).size = s.size - k := extract_size (Nat.le_refl _)
  have hb : ∀ j, k + j < s.size → byteAt (s.extract k s.size) j = byteAt s (k + j) := fun j h => byteAt_extract h
  unfold escOf
  rw [hs]
  simp only [Nat.zero_add]
  by_cases h1 : k + 1 < s.size
  · rw [if_pos (by omega), if_pos h1, hb 1 h1]
    by_cases c1 : byteAt s (k + 1) = 34 ∨ byteAt s (k + 1) = 92
    · rw [if_pos c1, if_pos c1]
    · by_cases c2 : byteAt s (k + 1) = 110
      · rw [if_neg c1, if_neg c1, if_pos c2, if_pos c2]
      · rw [if_neg c1, if_neg c1, if_neg c2, if_neg c2]
        by_cases h3 : k + 3 < s.size
        · rw [hb 2 (by omega), hb 3 h3]
          by_cases c3 : byteAt s (k + 1) = 120
          · rw [if_pos ⟨c3, by omega⟩, if_pos ⟨c3, h3⟩]
          · rw [if_neg (fun h => c3 h.1), if_neg (fun h => c3 h.1)]
        · rw [if_neg (by omega), if_neg (fun h => h3 h.2)]
  · rw [if_neg (by omega), if_neg h1]
theorem byteCells_snoc (acc : List UInt8) (x : Nat) (hx : x < 256) : Lib.byteCells (acc ++ [UInt8.ofNat x]) = Lib.byteCells acc ++ [.int .u8 (x : Int)] := by
  simp only [Lib.byteCells, List.map_append, List.map_cons, List.map_nil]
  congr 3
  simp
  omega
theorem textAt_ok {s : ByteArray} {i j : Nat} {l : List UInt8} (h : textFrom s (i + 1) [] = .inr (l, j)) : textAt s i = .inr (⟨4, ⟨l.toArray⟩, 0, i⟩, j) := by unfold textAt; rw [h]
theorem textAt_bad {s : ByteArray} {i a : Nat} (h : textFrom s (i + 1) [] = .inl a) : textAt s i = .inl a := by unfold textAt; rw [h]

set_option maxRecDepth 100000 in
set_option maxHeartbeats 4000000 in
theorem text_any (B b : Nat) (s : ByteArray) (i : Nat) (l : List Tok) (w : World) (h : IsScan B b s i l w) (hi : i < s.size) (hs : s.size ≤ 8000) (hl : l.length ≤ 8000) (hBw : B ≤ w.heap.size) (hg : LexAt B w) :
    Calls Tryd.prog 114 #[.pointer (some ⟨b, 0, none⟩)] w (Out B b s l w (textAt s i)) := by
  obtain ⟨w1, r, hwa, hr, hI1, hr1, hW1, hBr, hrb, hrl⟩ := h.fault hBw
  have hB1 : B ≤ w1.heap.size := by omega
  obtain ⟨wb, hwb⟩ : ∃ wb, w1.alloc (.cells #[.pointer none, .slice none 0 0] 193) = wb := ⟨_, rfl⟩
  have hbd0 := IsBd.new w1
  have hbel0 : Below w1.heap.size w1 wb := by rw [← hwb]; exact (Below.refl _ _).alloc (Nat.le_refl _) _
  rw [hwb] at hbd0
  obtain ⟨q, hq⟩ : ∃ q, w1.heap.size = q := ⟨_, rfl⟩
  have Hq := Lib.hid hq
  rw [hq] at hbd0 hbel0
  have c1b : wb.cell? ⟨b, 1, none⟩ = some (.int .i64 i) := (hI1.old (by rw [hq]; exact hbel0)).c1
  have Hbd0 := Lib.hid hbd0
  have Hbel0 := Lib.hid hbel0
  have HI1 := Lib.hid hI1
  have Hr1 := Lib.hid hr1
  have HW1 := Lib.hid hW1
  have Hg := Lib.hid hg
  have hwr : w.heap.size ≤ r := by omega
  have hrq : r < q := by omega
  have hBq : B ≤ q := by omega
  have hbq : b < q := by have := hI1.lt; omega
  clear h hI1 hr1 hW1 hbd0 hbel0 hg
  go_enter Tryd.func114, Tryd.ntmps114
  go_wp2_with fail
  clear hwa hr hwb hq c1b hrl hB1
  go_loopw [4] (fun at' wr => ∃ (k : Nat) (acc : List UInt8), k ≤ s.size ∧ at' = .int .i64 k ∧ IsBd q q (Lib.byteCells acc) wr ∧ Below q w1 wr ∧ acc.length ≤ k ∧ textFrom s k acc = textFrom s (i + 1) []) (fun at' _ => s.size - (intOf at').toNat)
  case atStart => exact ⟨i + 1, [], by omega, by go_num, Hbd0.out, Hbel0.out, by simp, rfl⟩
  case round =>
    obtain ⟨k, acc, hk, rfl, hbd, hbel, hac, htx⟩ := hrel
    have hbel' : Below w1.heap.size w1 wr := by rw [Hq.out]; exact hbel
    have hIw := HI1.out.old hbel'
    have c0 := hIw.c0
    have hqw : q ≤ wr.heap.size := by have := hbel.size; have := Hq.out; omega
    have HBD := Lib.hid hbd
    have HBE := Lib.hid hbel'
    have HT := Lib.hid htx
    have HLx := Lib.hid ((Hg.out.below HW1.out.below).below (hbel.mono hBq)).w
    clear hbd hbel hbel' htx hIw
    by_cases hlt : k < s.size
    · obtain ⟨u, hu, hb, hu8⟩ := byteAt_some hlt
      have Hb := Lib.hid hb
      clear hb
      by_cases h34 : u = 34
      · subst h34
        have HTA : Hid (textAt s i = .inr (⟨4, ⟨acc.toArray⟩, 0, i⟩, k + 1)) := Lib.hid (textAt_ok (by rw [← HT.out, textFrom_quote hlt Hb.out]))
        go_wp2_with fail
        refine (bdString q q acc _ HBD.out hqw).mono ?_
        rintro e w2 ⟨rfl, hb2, _⟩
        have hb2' : Below w1.heap.size w1 w2 := HBE.out.trans (by rw [Hq.out]; exact hb2)
        have HI2 := Lib.hid (HI1.out.old hb2')
        have HR2 : Hid (w2.heap[r]? = some (.cells #[.int .i64 0, .int .i64 0] 71 (0, 0))) := Lib.hid (by rw [hb2'.block r (by rw [Hq.out]; exact hrq)]; exact Hr1.out)
        have HW2 := Lib.hid (HW1.out.old (by rw [Hq.out]; exact hBq) hb2')
        have hB2 : B ≤ w2.heap.size := by have := hb2.size; omega
        clear hb2 hb2'
        go_wp2_with fail
        refine (put_at B b s i l 4 0 (k + 1) _ _ _ _ _ HI2.out hl hB2 rfl rfl (by omega)).mono ?_
        rintro e w3 ⟨rfl, hI3, hW3⟩
        have hr3 := hW3.keep HR2.out hrb (by decide)
        have d0 : w3.cell? ⟨r, 0, none⟩ = some (.int .i64 0) := by rw [Lib.cell_of_heap hr3]; rfl
        have d1 : w3.cell? ⟨r, 1, none⟩ = some (.int .i64 0) := by rw [Lib.cell_of_heap hr3]; rfl
        have f0 := Lib.frozen_of_heap hr3 0
        have f1 := Lib.frozen_of_heap hr3 1
        have HI3 := Lib.hid hI3
        have HW3 := Lib.hid (HW2.out.trans hW3)
        have HR3 := Lib.hid hr3
        clear hI3 hW3 hr3
        go_wp2_with fail
        refine bodyPost_ret (v := faultV 0 0) ?_ rfl ?_
        · simp [faultV, results, Tryd.results114, go_sem, d0, d1]
        rw [HTA.out]
        exact Out.ok HI3.out HW3.out HR3.out hrb hwr hBr
      · have e34 : ((u : Int) == 34) = false := by rw [beq_eq_false_iff_ne]; omega
        by_cases h92 : u = 92
        · subst h92
          obtain ⟨tk, htk⟩ : ∃ tk, s.extract k s.size = tk := ⟨_, rfl⟩
          have htks : tk.size ≤ 8000 := by rw [← htk, extract_size (Nat.le_refl _)]; omega
          have hkk : (k : Int) ≤ (s.size : Int) := by omega
          have he2 : escOf tk 0 = escOf s k := by rw [← htk]; exact escOf_extract
          cases hesc : escOf s k with
          | none =>
            have HTA : Hid (textAt s i = .inl k) := Lib.hid (textAt_bad (by rw [← HT.out, textFrom_noesc hlt Hb.out hesc]))
            have HE : Hid (Calls Tryd.prog 134 #[.string tk] wr fun e w' => e = .returned (.tuple #[.int .u8 0, .int .i64 0]) ∧ Below wr.heap.size wr w') := Lib.hid (by have := escape_any tk wr htks HLx.out; rw [he2, hesc] at this; exact this)
            clear he2 hesc
            go_wp2_with fail
            refine HE.out.mono ?_
            rintro e w2 ⟨rfl, hb2⟩
            have HB2 := Lib.hid (HBE.out.trans (hb2.mono (by rw [Hq.out]; exact hqw)))
            clear hb2
            go_wp2_with fail
            refine (wrong_any _ _).mono ?_
            rintro e w9 ⟨rfl, hb9⟩
            have hb9' : Below w1.heap.size w1 w9 := HB2.out.trans (hb9.mono (by exact HB2.out.size))
            have hr9 : w9.heap[r]? = some (.cells #[.int .i64 0, .int .i64 0] 71 (0, 0)) := by rw [hb9'.block r (by rw [Hq.out]; exact hrq)]; exact Hr1.out
            have d0 : w9.cell? ⟨r, 0, none⟩ = some (.int .i64 0) := by rw [Lib.cell_of_heap hr9]; rfl
            have d1 : w9.cell? ⟨r, 1, none⟩ = some (.int .i64 0) := by rw [Lib.cell_of_heap hr9]; rfl
            have f0 := Lib.frozen_of_heap hr9 0
            have f1 := Lib.frozen_of_heap hr9 1
            have HW9 := Lib.hid (HW1.out.old (by rw [Hq.out]; exact hBq) hb9')
            clear hb9 hb9' hr9
            go_wp2_with fail
            refine bodyPost_ret (v := faultV 9 k) ?_ rfl ?_
            · simp [faultV, results, Tryd.results114, go_sem, d0, d1]
            rw [HTA.out]
            exact Out.bad HW9.out hwr hBr
          | some p =>
            obtain ⟨x, n⟩ := p
            obtain ⟨hn2, hn4, hkn, hx8⟩ := escOf_ge hesc
            have en : ((n : Int) == 0) = false := by rw [beq_eq_false_iff_ne]; omega
            have HS : Hid (textFrom s k acc = textFrom s (k + n) (acc ++ [UInt8.ofNat x])) := Lib.hid (textFrom_esc hlt Hb.out hesc)
            have HE : Hid (Calls Tryd.prog 134 #[.string tk] wr fun e w' => e = .returned (.tuple #[.int .u8 (x : Int), .int .i64 (n : Int)]) ∧ Below wr.heap.size wr w') := Lib.hid (by have := escape_any tk wr htks HLx.out; rw [he2, hesc] at this; exact this)
            clear he2 hesc
            go_wp2_with fail
            refine HE.out.mono ?_
            rintro e w2 ⟨rfl, hb2⟩
            have HB2 := Lib.hid (HBE.out.trans (hb2.mono (by rw [Hq.out]; exact hqw)))
            have HBD2 := Lib.hid (HBD.out.old hb2)
            have hqw2 : q ≤ w2.heap.size := by have := hb2.size; omega
            clear hb2
            go_wp2_with fail
            refine (bdWriteByte q q (Lib.byteCells acc) x _ HBD2.out (by simp [Lib.byteCells]; omega) hqw2).mono ?_
            rintro e w3 ⟨rfl, hbd3, hW3⟩
            have HBD3 := Lib.hid hbd3
            have HB3 := Lib.hid (HB2.out.trans (by rw [Hq.out]; exact hW3.below))
            clear hbd3 hW3
            go_wp2_with fail
            go_roundw
            case rel => exact ⟨k + n, acc ++ [UInt8.ofNat x], by omega, by go_num, by rw [byteCells_snoc acc x hx8]; exact HBD3.out, by have := HB3.out; rw [Hq.out] at this; exact this, by simp; omega, by rw [← HS.out]; exact HT.out⟩
            case measure => simp [intOf]; omega
        · have e92 : ((u : Int) == 92) = false := by rw [beq_eq_false_iff_ne]; omega
          by_cases hbad : u < 32 ∨ 126 < u
          · have HTA : Hid (textAt s i = .inl k) := Lib.hid (textAt_bad (by rw [← HT.out, textFrom_bad hlt (by rw [Hb.out]; exact hbad)]))
            have HB2 := HBE
            rcases hbad with hbad | hbad
            all_goals
              go_wp2_with fail
              refine (wrong_any _ _).mono ?_
              rintro e w9 ⟨rfl, hb9⟩
              have hb9' : Below w1.heap.size w1 w9 := HB2.out.trans (hb9.mono (by exact HB2.out.size))
              have hr9 : w9.heap[r]? = some (.cells #[.int .i64 0, .int .i64 0] 71 (0, 0)) := by rw [hb9'.block r (by rw [Hq.out]; exact hrq)]; exact Hr1.out
              have d0 : w9.cell? ⟨r, 0, none⟩ = some (.int .i64 0) := by rw [Lib.cell_of_heap hr9]; rfl
              have d1 : w9.cell? ⟨r, 1, none⟩ = some (.int .i64 0) := by rw [Lib.cell_of_heap hr9]; rfl
              have f0 := Lib.frozen_of_heap hr9 0
              have f1 := Lib.frozen_of_heap hr9 1
              have HW9 := Lib.hid (HW1.out.old (by rw [Hq.out]; exact hBq) hb9')
              clear hb9 hb9' hr9
              go_wp2_with fail
              refine bodyPost_ret (v := faultV 9 k) ?_ rfl ?_
              · simp [faultV, results, Tryd.results114, go_sem, d0, d1]
              rw [HTA.out]
              exact Out.bad HW9.out hwr hBr
          · have HS : Hid (textFrom s k acc = textFrom s (k + 1) (acc ++ [UInt8.ofNat u])) := Lib.hid (by rw [textFrom_plain hlt (by rw [Hb.out]; exact h34) (by rw [Hb.out]; exact h92) (by rw [Hb.out]; exact hbad), Hb.out])
            have hlo : 32 ≤ u := by omega
            have hhi : u ≤ 126 := by omega
            clear hbad h34 h92
            go_wp2_with fail
            refine (bdWriteByte q q (Lib.byteCells acc) u _ HBD.out (by simp [Lib.byteCells]; omega) hqw).mono ?_
            rintro e w3 ⟨rfl, hbd3, hW3⟩
            have HBD3 := Lib.hid hbd3
            have HB3 := Lib.hid (HBE.out.trans (by rw [Hq.out]; exact hW3.below))
            clear hbd3 hW3
            go_wp2_with fail
            go_roundw
            case rel => exact ⟨k + 1, acc ++ [UInt8.ofNat u], by omega, by go_num, by rw [byteCells_snoc acc u hu8]; exact HBD3.out, by have := HB3.out; rw [Hq.out] at this; exact this, by simp; omega, by rw [← HS.out]; exact HT.out⟩
            case measure => simp [intOf]; omega
    · have HTA : Hid (textAt s i = .inl s.size) := Lib.hid (textAt_bad (by rw [← HT.out, textFrom_end hlt]))
      have HB2 := HBE
      go_wp2_with fail
      refine (wrong_any _ _).mono ?_
      rintro e w9 ⟨rfl, hb9⟩
      have hb9' : Below w1.heap.size w1 w9 := HB2.out.trans (hb9.mono (by exact HB2.out.size))
      have hr9 : w9.heap[r]? = some (.cells #[.int .i64 0, .int .i64 0] 71 (0, 0)) := by rw [hb9'.block r (by rw [Hq.out]; exact hrq)]; exact Hr1.out
      have d0 : w9.cell? ⟨r, 0, none⟩ = some (.int .i64 0) := by rw [Lib.cell_of_heap hr9]; rfl
      have d1 : w9.cell? ⟨r, 1, none⟩ = some (.int .i64 0) := by rw [Lib.cell_of_heap hr9]; rfl
      have f0 := Lib.frozen_of_heap hr9 0
      have f1 := Lib.frozen_of_heap hr9 1
      have HW9 := Lib.hid (HW1.out.old (by rw [Hq.out]; exact hBq) hb9')
      clear hb9 hb9' hr9
      go_wp2_with fail
      refine bodyPost_ret (v := faultV 9 s.size) ?_ rfl ?_
      · simp [faultV, results, Tryd.results114, go_sem, d0, d1]
      rw [HTA.out]
      exact Out.bad HW9.out hwr hBr
end Go.Proofs.YtaijdpckkobofaaDoor
