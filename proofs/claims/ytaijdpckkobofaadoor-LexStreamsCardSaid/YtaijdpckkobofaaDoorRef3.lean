/- ref21: Scan. (wip/gen_ref3.py) -/
import Derived.Test.YtaijdpckkobofaaDoorRef2
import Derived.Test.YtaijdpckkobofaaDoorRefPlain
import Derived.Test.YtaijdpckkobofaaDoorLaw21q
namespace Go.Proofs.YtaijdpckkobofaaDoor
open Go.RowKit
set_option linter.unusedVariables false

theorem below_set2 {w wr : World} (h : Below w.heap.size w wr) {r : Nat} (hr : w.heap.size ≤ r) (a b : Value) : Below w.heap.size w ((wr.setCell ⟨r, 0, none⟩ a).setCell ⟨r, 1, none⟩ b) :=
  (h.setCell (p := ⟨r, 0, none⟩) hr a).setCell (p := ⟨r, 1, none⟩) hr b
theorem set4_heap {w : World} {p : Nat} {x0 x1 x2 x3 : Value} {ty : TypeId} {fz : Nat × Nat} (h : w.heap[p]? = some (.cells #[x0, x1, x2, x3] ty fz)) (a b c d : Value) :
    ((((w.setCell ⟨p, 0, none⟩ a).setCell ⟨p, 1, none⟩ b).setCell ⟨p, 2, none⟩ c).setCell ⟨p, 3, none⟩ d).heap[p]? = some (.cells #[a, b, c, d] ty fz) := by
  simp [World.setCell, Array.getElem?_modify, h]
theorem tok_cell (k n a : Int) (t : ByteArray) : ∀ u ∈ [Value.int .i64 k, .string t, .int .i64 n, .int .i64 a], u.oneCell' = true := fun u hu => by
  simp at hu
  rcases hu with rfl | rfl | rfl | rfl <;> rfl
theorem toksCells_snoc (l : List Tok) (t : Tok) : toksCells (l ++ [t]) = toksCells l ++ [.int .i64 t.kind, .string t.text, .int .i64 t.num, .int .i64 t.at_] := by
  simp [toksCells, Tok.cells]
theorem own_tok {w : World} {B : Nat} {v : Value} {l : List Tok} {t : Tok} {kI nI aI : Int} {tx : ByteArray} (h : w.ownsRow B 75 4 v (l.length + 1) (toksCells l ++ [.int .i64 kI, .string tx, .int .i64 nI, .int .i64 aI])) (h1 : (t.kind : Int) = kI) (h2 : t.text = tx) (h3 : (t.num : Int) = nI) (h4 : (t.at_ : Int) = aI) :
    w.ownsRow B 75 4 v (l ++ [t]).length (toksCells (l ++ [t])) := own_cast h (by simp) (by rw [toksCells_snoc, h1, h2, h3, h4])

theorem Scan_ok {w w9 : World} {q r : Nat} {v : Value} {L : List Tok} {s : ByteArray} {x y : Value} {c : Array Value} {fz : Nat × Nat} (hb : Below w.heap.size w w9) (hr : w.heap.size ≤ r) (hq : w.heap.size ≤ q) (hh : w9.heap[r]? = some (.cells c 71 fz)) (hown : w9.ownsRow q 75 4 v L.length (toksCells L)) (hs : scanAll s = .inr L) :
    ScanOut w (scanAll s) (.returned (.tuple #[v, faultV 0 0])) ((w9.setCell ⟨r, 0, none⟩ x).setCell ⟨r, 1, none⟩ y) := by
  rw [hs]
  obtain ⟨c', hc'⟩ := set_kind hh 0 x
  exact ⟨below_set2 hb hr _ _, v, rfl, own_base hq (own_other (own_other hown hh (by decide) _ _) hc' (by decide) _ _)⟩
theorem Scan_bad {w w9 : World} {r a : Nat} {s : ByteArray} {x y : Value} (hb : Below w.heap.size w w9) (hr : w.heap.size ≤ r) (hs : scanAll s = .inl (9, a)) :
    ScanOut w (scanAll s) (.returned (.tuple #[.slice none 0 0, faultV 9 a])) ((w9.setCell ⟨r, 0, none⟩ x).setCell ⟨r, 1, none⟩ y) := by
  rw [hs]
  exact ⟨below_set2 hb hr _ _, rfl⟩

theorem rname_t {c : Nat} (h : isLetter c = true) (W : World) : Calls Tryd.prog 73 #[.int .u8 c] W fun e w' => e = .returned (.bool true) ∧ W = w' := (rletter_any c W).mono fun e w' ⟨he, hw⟩ => ⟨by rw [he, h], hw.symm⟩
theorem rname_f {c : Nat} (h : isLetter c = false) (W : World) : Calls Tryd.prog 73 #[.int .u8 c] W fun e w' => e = .returned (.bool false) ∧ W = w' := (rletter_any c W).mono fun e w' ⟨he, hw⟩ => ⟨by rw [he, h], hw.symm⟩
theorem rname_b {c : Nat} {k : Bool} (h : isLetter c = k) (W : World) : Calls Tryd.prog 73 #[.int .u8 c] W fun e w' => e = .returned (.bool k) ∧ W = w' := (rletter_any c W).mono fun e w' ⟨he, hw⟩ => ⟨by rw [he, h], hw.symm⟩
theorem rdig_t {c : Nat} (h : isDigit c = true) (W : World) : Calls Tryd.prog 74 #[.int .u8 c] W fun e w' => e = .returned (.bool true) ∧ W = w' := (rdigit_any c W).mono fun e w' ⟨he, hw⟩ => ⟨by rw [he, h], hw.symm⟩
theorem rdig_f {c : Nat} (h : isDigit c = false) (W : World) : Calls Tryd.prog 74 #[.int .u8 c] W fun e w' => e = .returned (.bool false) ∧ W = w' := (rdigit_any c W).mono fun e w' ⟨he, hw⟩ => ⟨by rw [he, h], hw.symm⟩
theorem rmark_b {c : Nat} {k : Bool} (hc : c < 256) (h : isMark c = k) (W : World) : Calls Tryd.prog 77 #[.int .u8 c] W fun e w' => e = .returned (.bool k) ∧ W = w' := (rmark_any c W).mono fun e w' ⟨he, hw⟩ => ⟨by rw [he, ← h, ← isMark_eq ⟨c, hc⟩], hw.symm⟩
theorem resv_b {t : ByteArray} {k : Bool} (h : isWord t = k) (hn : 32 ∉ t.data.toList) (W : World) : Calls Tryd.prog 75 #[.string t] W fun e w' => e = .returned (.bool k) ∧ W = w' := (reserved_any t W).mono fun e w' ⟨he, hw⟩ => ⟨by rw [he, ← h, isWord_eq t hn], hw.symm⟩

set_option maxRecDepth 100000 in
set_option maxHeartbeats 40000000 in
theorem rscan_any (s : ByteArray) (w : World) :
    Calls Tryd.prog 35 #[.string s] w (ScanOut w (scanAll s)) := by
  by_cases hs : 8000 < s.size
  · rw [scanAll_big hs]
    go_enter Tryd.func35, Tryd.ntmps35
    go_wp2_with fail
    refine bodyPost_ret (v := .tuple #[.slice none 0 0, faultV 2 0]) ?_ rfl ?_
    · simp [faultV, results, Tryd.results35, go_sem]
    first | exact ⟨below_set2 ((Below.refl _ _).alloc (Nat.le_refl _) _) (Nat.le_refl _) _ _, rfl⟩ | exact ⟨(Below.refl _ _).alloc (Nat.le_refl _) _, rfl⟩
  · have hs' : s.size ≤ 8000 := by omega
    clear hs
    obtain ⟨i0, hif, hz0, hz1, hz2⟩ := info_parts info_tok
    obtain ⟨w1, hw1⟩ : ∃ w1, w.alloc (.cells #[.int .i64 0, .int .i64 0] 71) = w1 := ⟨_, rfl⟩
    obtain ⟨r, hr⟩ : ∃ r, w.heap.size = r := ⟨_, rfl⟩
    obtain ⟨q, hq⟩ : ∃ q, w1.heap.size = q := ⟨_, rfl⟩
    have hrq : r < q := by rw [← hq, ← hw1, World.size_alloc]; omega
    have hh1 : w1.heap[r]? = some (.cells #[.int .i64 0, .int .i64 0] 71 (0, 0)) := by rw [← hw1, ← hr]; exact heap_new _ _
    have Hb1 : Hid (Below w.heap.size w w1) := Lib.hid (by rw [← hw1]; exact (Below.refl _ _).alloc (Nat.le_refl _) _)
    have Hh1 := Lib.hid hh1
    have hwr : w.heap.size ≤ r := by omega
    have hwq : w.heap.size ≤ q := by omega
    have hq1 : q ≤ w1.heap.size := by omega
    have Hw1 := Lib.hid hw1
    have Hr := Lib.hid hr
    clear hw1 hh1 hr hq
    go_enter Tryd.func35, Tryd.ntmps35
    go_wp2_with fail
    rw [Hw1.out]
    clear Hw1
    have Hr' := Hr.out
    rw [Hr']
    clear Hr Hr'
    go_loopw [4, 5] (fun v at' wr => ∃ (k : Nat) (l : List Tok), k ≤ s.size ∧ at' = .int .i64 k ∧ wr.ownsRow q 75 4 v l.length (toksCells l) ∧ Below q w1 wr ∧ l.length ≤ k ∧ scanFrom s k l = scanFrom s 0 []) (fun _ at' _ => s.size - (intOf at').toNat)
    case atStart => exact ⟨0, [], by omega, rfl, World.ownsRow_nil _ _ _ _, Below.refl _ _, by simp, rfl⟩
    case round =>
      obtain ⟨wo, hwo⟩ : ∃ wo : World, wr = wo := ⟨_, rfl⟩
      obtain ⟨k, l, hk, rfl, hown, hbel, hac, htx⟩ := hrel
      rw [hwo] at hown hbel ⊢
      clear hwo
      have hqw : q ≤ wo.heap.size := by have := hbel.size; omega
      have HBW := Lib.hid (Hb1.out.trans (hbel.mono hwq))
      have hhr : wo.heap[r]? = some (.cells #[.int .i64 0, .int .i64 0] 71 (0, 0)) := by rw [hbel.block r hrq]; exact Hh1.out
      have HT := Lib.hid htx
      clear htx
      by_cases hlt : k < s.size
      · obtain ⟨u, hu, hb, hu8⟩ := byteAt_some hlt
        have Hb := Lib.hid hb
        clear hb
        by_cases hbl : isBlank u = true
        · have Hbl := Lib.hid hbl
          have hbl' : (u : Int) = 32 ∨ (u : Int) = 9 ∨ (u : Int) = 10 := by simp [isBlank] at hbl; omega
          clear hbl hhr
          rcases hbl' with h1 | h1 | h1
          all_goals
            go_wp2_with fail
            go_roundw
            case rel => first | exact ⟨k + 1, l, by omega, by go_num, hown, hbel, by omega, by rw [← HT.out]; exact (scan_blank hlt (by rw [Hb.out]; exact Hbl.out)).symm⟩ | ((repeat apply Exists.intro); exact ⟨⟨k + 1, l, by omega, by go_num, hown, hbel, by omega, by rw [← HT.out]; exact (scan_blank hlt (by rw [Hb.out]; exact Hbl.out)).symm⟩, rfl⟩)
            case measure => simp [intOf]; omega
        · have Hbl : Hid (¬ isBlank (byteAt s k) = true) := Lib.hid (by rw [Hb.out]; exact hbl)
          have e32 : ((u : Int) == 32) = false := by rw [beq_eq_false_iff_ne]; simp [isBlank] at hbl; omega
          have e9 : ((u : Int) == 9) = false := by rw [beq_eq_false_iff_ne]; simp [isBlank] at hbl; omega
          have e10 : ((u : Int) == 10) = false := by rw [beq_eq_false_iff_ne]; simp [isBlank] at hbl; omega
          clear hbl
          by_cases h35 : u = 35
          · subst h35
            as_aux_lemma =>
              have HE : Hid (scanFrom s (runOf isLine s k) l = scanFrom s 0 []) := Lib.hid (by rw [← HT.out]; exact (scan_line hlt Hb.out).symm)
              have he1 : k < runOf isLine s k := runOf_gt hlt (by rw [Hb.out]; decide)
              have he2 := runOf_le isLine s k hk
              clear hhr
              go_wp2_with fail
              go_loopw [5] (fun i' wr => ∃ j : Nat, k ≤ j ∧ j ≤ s.size ∧ i' = .int .i64 j ∧ runOf isLine s j = runOf isLine s k ∧ wo = wr) (fun i' _ => s.size - (intOf i').toNat)
              case atStart => exact ⟨k, by omega, hk, rfl, rfl, rfl⟩
              case round =>
                obtain ⟨j, hkj, hj, rfl, hrun, rfl⟩ := hrel
                have Hrun := Lib.hid hrun
                clear hrun
                by_cases hlt1 : j < s.size
                · obtain ⟨u1, hu1, hb1, hu18⟩ := byteAt_some hlt1
                  have Hc1 := Lib.hid hb1
                  clear hb1
                  by_cases h10 : u1 = 10
                  · subst h10
                    have Hje : Hid (j = runOf isLine s k) := Lib.hid (by rw [← Hrun.out, runOf_stop hlt1 (by rw [Hc1.out]; decide)])
                    go_wp2_with fail
                    go_roundw
                    case rel => first | exact ⟨j, l, hj, rfl, hown, hbel, by have := Hje.out; omega, by rw [Hje.out]; exact HE.out⟩ | ((repeat apply Exists.intro); exact ⟨⟨j, l, hj, rfl, hown, hbel, by have := Hje.out; omega, by rw [Hje.out]; exact HE.out⟩, rfl⟩)
                    case measure => have := Hje.out; simp [intOf]; omega
                  · have e10' : ((u1 : Int) == 10) = false := by rw [beq_eq_false_iff_ne]; omega
                    clear h10
                    go_wp2_with fail
                    go_roundw
                    case rel => first | exact ⟨j + 1, by omega, by omega, by go_num, by rw [← Hrun.out, runOf_step hlt1 (by rw [Hc1.out]; simp [isLine]; simp at e10'; omega)], by first | rfl | trivial⟩ | ((repeat apply Exists.intro); exact ⟨⟨j + 1, by omega, by omega, by go_num, by rw [← Hrun.out, runOf_step hlt1 (by rw [Hc1.out]; simp [isLine]; simp at e10'; omega)], by first | rfl | trivial⟩, rfl⟩)
                    case measure => simp [intOf]; omega
                · have Hje : Hid (j = runOf isLine s k) := Lib.hid (by rw [← Hrun.out, runOf_end hlt1])
                  go_wp2_with fail
                  go_roundw
                  case rel => first | exact ⟨j, l, hj, rfl, hown, hbel, by have := Hje.out; omega, by rw [Hje.out]; exact HE.out⟩ | ((repeat apply Exists.intro); exact ⟨⟨j, l, hj, rfl, hown, hbel, by have := Hje.out; omega, by rw [Hje.out]; exact HE.out⟩, rfl⟩)
                  case measure => have := Hje.out; simp [intOf]; omega
          · have H35 : Hid (¬ byteAt s k = 35) := Lib.hid (by rw [Hb.out]; exact h35)
            have e35 : ((u : Int) == 35) = false := by rw [beq_eq_false_iff_ne]; omega
            clear h35
            by_cases hle : isLetter u = true
            · have hk0 : (0 : Int) ≤ (k : Int) := by omega
              as_aux_lemma =>
                have HTK : Hid (tokenAt s k = nameAt s k) := Lib.hid (token_letter Hb.out hle)
                have he1 : k < runOf isName s k := runOf_gt hlt (by rw [Hb.out]; simp [isName, hle])
                have he2 := runOf_le isName s k hk
                have HIN := Lib.hid (runOf_all isName s k)
                have HNB := Lib.hid (name_no_blank (s := s) hk)
                have HST := Lib.hid (show ∀ j, runOf isName s k = j → ∀ c, byteAt s j = c → j < s.size → isName c = false from fun j hj c hc hl => by subst hj hc; have := runOf_idem isName s k hl; exact Bool.eq_false_iff.2 this)
                have HNA : Hid (nameAt s k = if 16 < (s.extract k (runOf isName s k)).size then .inl k else .inr (⟨if isWord (s.extract k (runOf isName s k)) = true then 2 else 1, s.extract k (runOf isName s k), 0, k⟩, runOf isName s k)) := Lib.hid rfl
                rw [HTK.out.symm] at HNA
                generalize runOf isName s k = e at *
                obtain ⟨t, ht⟩ : ∃ t, s.extract k e = t := ⟨_, rfl⟩
                have hts : t.size = e - k := by rw [← ht]; exact extract_size he2
                rw [ht] at HNA HNB
                obtain ⟨kw, hkw⟩ : ∃ kw, isWord t = kw := ⟨_, rfl⟩
                rw [hkw, hts] at HNA
                have HR : Hid (∀ W, Calls Tryd.prog 75 #[.string t] W fun e w' => e = .returned (.bool kw) ∧ W = w') := Lib.hid (resv_b hkw HNB.out)
                have HL0 : Hid (∀ W, Calls Tryd.prog 73 #[.int .u8 u] W fun e w' => e = .returned (.bool true) ∧ W = w') := Lib.hid (rname_t hle)
                clear hle hkw hts hhr
                go_wp2_with (first | (go_at_call 73; refine (HL0.out _).mono ?_; rintro e w2 ⟨rfl, rfl⟩))
                go_loopw [7] (fun i' wr => ∃ j : Nat, k ≤ j ∧ j ≤ e ∧ i' = .int .i64 j ∧ wo = wr) (fun i' _ => s.size - (intOf i').toNat)
                case atStart => exact ⟨k, by omega, by omega, rfl, rfl⟩
                case round =>
                  obtain ⟨j, hkj, hj, rfl, rfl⟩ := hrel
                  by_cases hje : j < e
                  · obtain ⟨u1, hu1, hb1, hu18⟩ := byteAt_some (show j < s.size by omega)
                    have hin := HIN.out j hkj hje
                    rw [hb1] at hin
                    have hjs : j < s.size := by omega
                    clear hb1
                    by_cases hl1 : isLetter u1 = true
                    · have HL := Lib.hid (rname_t hl1)
                      clear hl1 hin
                      go_wp2_with (first | (go_at_call 73; refine (HL.out _).mono ?_; rintro e w2 ⟨rfl, rfl⟩))
                      go_roundw
                      case rel => first | exact ⟨j + 1, by omega, by omega, by go_num, by first | rfl | trivial⟩ | ((repeat apply Exists.intro); exact ⟨⟨j + 1, by omega, by omega, by go_num, by first | rfl | trivial⟩, rfl⟩)
                      case measure => simp [intOf]; omega
                    · have hl1' : isLetter u1 = false := Bool.eq_false_iff.2 hl1
                      have hd1 : isDigit u1 = true := by simpa [isName, hl1'] using hin
                      have HL := Lib.hid (rname_f hl1')
                      have HD := Lib.hid (rdig_t hd1)
                      clear hl1 hl1' hd1 hin
                      go_wp2_with (first | (go_at_call 73; refine (HL.out _).mono ?_; rintro e w2 ⟨rfl, rfl⟩) | (go_at_call 74; refine (HD.out _).mono ?_; rintro e w2 ⟨rfl, rfl⟩))
                      go_roundw
                      case rel => first | exact ⟨j + 1, by omega, by omega, by go_num, by first | rfl | trivial⟩ | ((repeat apply Exists.intro); exact ⟨⟨j + 1, by omega, by omega, by go_num, by first | rfl | trivial⟩, rfl⟩)
                      case measure => simp [intOf]; omega
                  · obtain rfl : j = e := by omega
                    clear hje
                    go_upto_region 16 with fail
                    go_cut [71] (fun s71 wx => s71 = .bool false ∧ wo = wx)
                    case first =>
                      by_cases hjs : j < s.size
                      · obtain ⟨u1, hu1, hb1, hu18⟩ := byteAt_some hjs
                        have hin := HST.out j rfl _ hb1 hjs
                        have hl1 : isLetter u1 = false := by simp [isName] at hin; exact hin.1
                        have hd1 : isDigit u1 = false := by simp [isName] at hin; exact hin.2
                        have HL := Lib.hid (rname_f hl1)
                        have HD := Lib.hid (rdig_f hd1)
                        clear hin hl1 hd1 hb1
                        go_wp2_with (first | (go_at_call 73; refine (HL.out _).mono ?_; rintro e w2 ⟨rfl, rfl⟩) | (go_at_call 74; refine (HD.out _).mono ?_; rintro e w2 ⟨rfl, rfl⟩))
                        go_meet
                        exact ⟨rfl, rfl⟩
                      · go_wp2_with fail
                        go_meet
                        exact ⟨rfl, rfl⟩
                    case rest =>
                      obtain ⟨rfl, rfl⟩ := hcut
                      by_cases h16 : 16 < j - k
                      · rw [if_pos h16] at HNA
                        have HBAD : Hid (scanFrom s k l = .inl k) := Lib.hid (scan_bad hlt Hbl.out H35.out HNA.out)
                        have h16' : 16 < (j : Int) - (k : Int) := by omega
                        clear h16
                        cases kw
                        all_goals
                          go_wp2_with (first | (go_at_call 75; refine (HR.out _).mono ?_; rintro e w2 ⟨rfl, rfl⟩) | (at_builtin; go_loud (refine wpList_append_own _ rfl (.tmp 84) (.tmp 92) 69 rfl q 75 i0 (.agg #[.int .i64 0, .string ⟨#[]⟩, .int .i64 0, .int .i64 0]) 4 40 Tryd.underlying69 hif hz0 hz1 hz2 rfl (by decide) _ l.length _ rfl (hown.alloc _) ⟨wo.heap.size, 0, none⟩ 1 1 [.int .i64 _, .string _, .int .i64 _, .int .i64 _] rfl rfl (cells_new _ [.int .i64 _, .string _, .int .i64 _, .int .i64 _] _) (tok_cell _ _ _ _) (by unfold maxLen; omega) (by omega) (by rw [World.size_alloc]; omega) ?_; intro v' w9 hown9 hgrow _; have hbel9 := below_app hbel hqw hown hgrow; have hh9 : w9.heap[r]? = some (.cells #[.int .i64 0, .int .i64 0] 71 (0, 0)) := (hbel9.block r hrq).trans Hh1.out; have e0 : w9.cell? ⟨r, 0, none⟩ = some (.int .i64 0) := (Lib.cell_of_heap hh9 _).trans rfl; have e1 : w9.cell? ⟨r, 1, none⟩ = some (.int .i64 0) := (Lib.cell_of_heap hh9 _).trans rfl; have g0 := Lib.frozen_of_heap hh9 0; have g1 := Lib.frozen_of_heap hh9 1; clear hh9)))
                          refine bodyPost_ret (v := .tuple #[.slice none 0 0, faultV 9 k]) ?_ rfl ?_
                          · simp [faultV, results, Tryd.results35, go_sem, e0, e1]
                          exact Scan_bad (Hb1.out.trans (hbel9.mono hwq)) hwr (scanAll_bad hs' (by rw [← HT.out]; exact HBAD.out))
                      · rw [if_neg h16] at HNA
                        have h16' : (j : Int) - (k : Int) ≤ 16 := by omega
                        clear h16
                        obtain ⟨kd, hkd⟩ : ∃ kd : Nat, (if kw = true then 2 else 1) = kd := ⟨_, rfl⟩
                        rw [hkd] at HNA
                        have Hkd := Lib.hid hkd
                        clear hkd
                        have HS : Hid (scanFrom s k l = scanFrom s j (l ++ [⟨kd, t, 0, k⟩])) := Lib.hid (scan_here hlt Hbl.out H35.out HNA.out)
                        cases kw
                        all_goals
                          go_wp2_with (first | (go_at_call 75; refine (HR.out _).mono ?_; rintro e w2 ⟨rfl, rfl⟩) | (at_builtin; go_loud (refine wpList_append_own _ rfl (.tmp 84) (.tmp 92) 69 rfl q 75 i0 (.agg #[.int .i64 0, .string ⟨#[]⟩, .int .i64 0, .int .i64 0]) 4 40 Tryd.underlying69 hif hz0 hz1 hz2 rfl (by decide) _ l.length _ rfl (hown.alloc _) ⟨wo.heap.size, 0, none⟩ 1 1 [.int .i64 _, .string _, .int .i64 _, .int .i64 _] rfl rfl (cells_new _ [.int .i64 _, .string _, .int .i64 _, .int .i64 _] _) (tok_cell _ _ _ _) (by unfold maxLen; omega) (by omega) (by rw [World.size_alloc]; omega) ?_; intro v' w9 hown9 hgrow _; have hbel9 := below_app hbel hqw hown hgrow; have hh9 : w9.heap[r]? = some (.cells #[.int .i64 0, .int .i64 0] 71 (0, 0)) := (hbel9.block r hrq).trans Hh1.out; have e0 : w9.cell? ⟨r, 0, none⟩ = some (.int .i64 0) := (Lib.cell_of_heap hh9 _).trans rfl; have e1 : w9.cell? ⟨r, 1, none⟩ = some (.int .i64 0) := (Lib.cell_of_heap hh9 _).trans rfl; have g0 := Lib.frozen_of_heap hh9 0; have g1 := Lib.frozen_of_heap hh9 1; clear hh9)))
                          go_roundw
                          case rel => first | exact ⟨j, l ++ [⟨kd, t, 0, k⟩], by omega, rfl, own_tok hown9 (by rw [← Hkd.out]; rfl) rfl rfl rfl, hbel9, by simp; omega, by rw [← HT.out]; exact HS.out.symm⟩ | ((repeat apply Exists.intro); exact ⟨⟨j, l ++ [⟨kd, t, 0, k⟩], by omega, rfl, own_tok hown9 (by rw [← Hkd.out]; rfl) rfl rfl rfl, hbel9, by simp; omega, by rw [← HT.out]; exact HS.out.symm⟩, rfl⟩)
                          case measure => simp [intOf]; omega
            · have hle' : isLetter u = false := Bool.eq_false_iff.2 hle
              have Hle := Lib.hid hle'
              clear hle hle'
              by_cases hdi : isDigit u = true
              · have hk0 : (0 : Int) ≤ (k : Int) := by omega
                as_aux_lemma =>
                  have HTK : Hid (tokenAt s k = numberAt s k) := Lib.hid (token_digit Hb.out Hle.out hdi)
                  have he1 : k < runOf isDigit s k := runOf_gt hlt (by rw [Hb.out]; exact hdi)
                  have he2 := runOf_le isDigit s k hk
                  have HIN := Lib.hid (runOf_all isDigit s k)
                  have HST := Lib.hid (show ∀ j, runOf isDigit s k = j → ∀ c, byteAt s j = c → j < s.size → isDigit c = false from fun j hj c hc hl => by subst hj hc; have := runOf_idem isDigit s k hl; exact Bool.eq_false_iff.2 this)
                  have HNA := Lib.hid (number_def s k _ rfl)
                  rw [HTK.out.symm] at HNA
                  generalize runOf isDigit s k = e at *
                  have HN0 : Hid (NumAt s k e k 0) := Lib.hid (num_zero s k e)
                  have HNE := Lib.hid (fun n => num_end (s := s) (n := n) he1 he2)
                  obtain ⟨t, ht⟩ : ∃ t, s.extract k e = t := ⟨_, rfl⟩
                  have hts : t.size = e - k := by rw [← ht]; exact extract_size he2
                  have htu : byteAt t 0 = u := by rw [← ht, byteAt_extract (by omega), Nat.add_zero]; exact Hb.out
                  rw [ht, hts, htu] at HNA
                  have HNE' := HNE.out
                  rw [ht] at HNE'
                  have HNF := Lib.hid HNE'
                  have HL0 := Lib.hid (rname_f Hle.out)
                  have HD0 := Lib.hid (rdig_t hdi)
                  clear hdi hts htu hhr HNE' HNE
                  go_wp2_with (first | (go_at_call 73; refine (HL0.out _).mono ?_; rintro e w2 ⟨rfl, rfl⟩) | (go_at_call 74; refine (HD0.out _).mono ?_; rintro e w2 ⟨rfl, rfl⟩))
                  go_loopw [7, 10] (fun i' x wr => ∃ j n : Nat, k ≤ j ∧ j ≤ e ∧ i' = .int .i64 j ∧ x = .int .i64 n ∧ NumAt s k e j n ∧ wo = wr) (fun i' _ _ => s.size - (intOf i').toNat)
                  case atStart => exact ⟨k, 0, by omega, by omega, rfl, rfl, HN0.out, rfl⟩
                  case round =>
                    obtain ⟨j, n, hkj, hj, rfl, rfl, hnum, rfl⟩ := hrel
                    have hn17 := num_small hnum
                    by_cases hje : j < e
                    · obtain ⟨u1, hu1, hb1, hu18⟩ := byteAt_some (show j < s.size by omega)
                      have hin := HIN.out j hkj hje
                      have hjs : j < s.size := by omega
                      have hd48 : 48 ≤ u1 ∧ u1 ≤ 57 := by rw [hb1] at hin; simpa [isDigit] using hin
                      obtain ⟨hlo, hhi⟩ := hd48
                      have HD := Lib.hid (rdig_t (c := u1) (by rw [hb1] at hin; exact hin))
                      by_cases h9 : j - k < 9
                      · have HNN : Hid (NumAt s k e (j + 1) (10 * n + (u1 - 48))) := Lib.hid (by have := num_step hkj hje he2 h9 hin hnum; rw [hb1] at this; exact this)
                        have h9' : (j : Int) - (k : Int) < 9 := by omega
                        clear hin hb1 h9 hnum
                        go_wp2_with (first | (go_at_call 74; refine (HD.out _).mono ?_; rintro e w2 ⟨rfl, rfl⟩))
                        go_roundw
                        case rel => first | exact ⟨j + 1, 10 * n + (u1 - 48), by omega, by omega, by go_num, by (congr 1; omega), HNN.out, by first | rfl | trivial⟩ | ((repeat apply Exists.intro); exact ⟨⟨j + 1, 10 * n + (u1 - 48), by omega, by omega, by go_num, by (congr 1; omega), HNN.out, by first | rfl | trivial⟩, rfl⟩)
                        case measure => simp [intOf]; omega
                      · have HNN : Hid (NumAt s k e (j + 1) n) := Lib.hid (num_stay hkj h9 hnum)
                        have h9' : 9 ≤ (j : Int) - (k : Int) := by omega
                        clear hin hb1 h9 hnum
                        go_wp2_with (first | (go_at_call 74; refine (HD.out _).mono ?_; rintro e w2 ⟨rfl, rfl⟩))
                        go_roundw
                        case rel => first | exact ⟨j + 1, n, by omega, by omega, by go_num, rfl, HNN.out, by first | rfl | trivial⟩ | ((repeat apply Exists.intro); exact ⟨⟨j + 1, n, by omega, by omega, by go_num, rfl, HNN.out, by first | rfl | trivial⟩, rfl⟩)
                        case measure => simp [intOf]; omega
                    · obtain rfl : j = e := by omega
                      have HNX : Hid (j - k ≤ 9 → numOf t = n) := Lib.hid (fun h9 => HNF.out n h9 hnum)
                      clear hje hnum
                      go_upto_region 26 with fail
                      go_cut [106] (fun s106 wx => s106 = .bool false ∧ wo = wx)
                      case first =>
                        by_cases hjs : j < s.size
                        · obtain ⟨u1, hu1, hb1, hu18⟩ := byteAt_some hjs
                          have HD := Lib.hid (rdig_f (HST.out j rfl _ hb1 hjs))
                          clear hb1
                          go_wp2_with (first | (go_at_call 74; refine (HD.out _).mono ?_; rintro e w2 ⟨rfl, rfl⟩))
                          go_meet
                          exact ⟨rfl, rfl⟩
                        · go_wp2_with fail
                          go_meet
                          exact ⟨rfl, rfl⟩
                      case rest =>
                        obtain ⟨rfl, rfl⟩ := hcut
                        have hj0 : (0 : Int) ≤ (j : Int) := by omega
                        obtain ⟨zb, hzb⟩ : ∃ zb : Bool, decide (9 < j - k ∨ (1 < j - k ∧ u = 48)) = zb := ⟨_, rfl⟩
                        have Hzb := Lib.hid hzb
                        clear hzb
                        go_upto_region 30 with fail
                        go_cut [134] (fun s134 wx => s134 = .bool zb ∧ wo = wx)
                        case first =>
                          by_cases h9 : 9 < j - k
                          · obtain rfl : true = zb := by rw [← Hzb.out]; symm; rw [decide_eq_true_iff]; exact Or.inl h9
                            have h9' : 9 < (j : Int) - (k : Int) := by omega
                            clear h9
                            go_wp2_with fail
                            go_meet
                            first | exact ⟨rfl, rfl⟩ | exact ⟨congrArg Value.bool (decide_eq_false (by omega)), rfl⟩
                          · have h9' : (j : Int) - (k : Int) ≤ 9 := by omega
                            by_cases h1 : 1 < j - k
                            · have h1' : 1 < (j : Int) - (k : Int) := by omega
                              by_cases h48 : u = 48
                              · obtain rfl : true = zb := by rw [← Hzb.out]; symm; rw [decide_eq_true_iff]; exact Or.inr ⟨h1, h48⟩
                                subst h48
                                clear h9 h1
                                go_wp2_with fail
                                go_meet
                                first | exact ⟨rfl, rfl⟩ | exact ⟨congrArg Value.bool (decide_eq_false (by omega)), rfl⟩
                              · obtain rfl : false = zb := by rw [← Hzb.out]; symm; rw [decide_eq_false_iff_not]; omega
                                have e48 : ((u : Int) == 48) = false := by rw [beq_eq_false_iff_ne]; omega
                                clear h9 h1 h48
                                go_wp2_with fail
                                go_meet
                                first | exact ⟨rfl, rfl⟩ | exact ⟨congrArg Value.bool (decide_eq_false (by omega)), rfl⟩
                            · obtain rfl : false = zb := by rw [← Hzb.out]; symm; rw [decide_eq_false_iff_not]; omega
                              have h1' : (j : Int) - (k : Int) ≤ 1 := by omega
                              clear h9 h1
                              go_wp2_with fail
                              go_meet
                              first | exact ⟨rfl, rfl⟩ | exact ⟨congrArg Value.bool (decide_eq_false (by omega)), rfl⟩
                        case rest =>
                          obtain ⟨rfl, rfl⟩ := hcut
                          cases zb
                          · have hno := of_decide_eq_false Hzb.out
                            rw [if_neg hno, HNX.out (by omega)] at HNA
                            obtain ⟨zl, hzl⟩ : ∃ zl : Bool, decide (j < s.size ∧ isLetter (byteAt s j) = true) = zl := ⟨_, rfl⟩
                            have Hzl := Lib.hid hzl
                            clear hzl hno
                            go_upto_region 32 with fail
                            go_cut [145] (fun s145 wx => s145 = .bool zl ∧ wo = wx)
                            case first =>
                              by_cases hjs : j < s.size
                              · obtain ⟨u2, hu2, hb2, hu28⟩ := byteAt_some hjs
                                have HL := Lib.hid (rname_b (c := u2) (k := zl) (by rw [← Hzl.out, hb2]; simp [hjs]))
                                clear hb2
                                go_wp2_with (first | (go_at_call 73; refine (HL.out _).mono ?_; rintro e w2 ⟨rfl, rfl⟩))
                                go_meet
                                first | exact ⟨rfl, rfl⟩ | exact ⟨congrArg Value.bool (decide_eq_false (by omega)), rfl⟩
                              · obtain rfl : false = zl := by rw [← Hzl.out]; symm; rw [decide_eq_false_iff_not]; exact fun h => hjs h.1
                                go_wp2_with fail
                                go_meet
                                first | exact ⟨rfl, rfl⟩ | exact ⟨congrArg Value.bool (decide_eq_false (by omega)), rfl⟩
                            case rest =>
                              obtain ⟨rfl, rfl⟩ := hcut
                              cases zl
                              · rw [if_neg (of_decide_eq_false Hzl.out)] at HNA
                                have HS : Hid (scanFrom s k l = scanFrom s j (l ++ [⟨3, t, n, k⟩])) := Lib.hid (scan_here hlt Hbl.out H35.out HNA.out)
                                go_wp2_with (first | (at_builtin; go_loud (refine wpList_append_own _ rfl (.tmp 147) (.tmp 155) 69 rfl q 75 i0 (.agg #[.int .i64 0, .string ⟨#[]⟩, .int .i64 0, .int .i64 0]) 4 40 Tryd.underlying69 hif hz0 hz1 hz2 rfl (by decide) _ l.length _ rfl (hown.alloc _) ⟨wo.heap.size, 0, none⟩ 1 1 [.int .i64 _, .string _, .int .i64 _, .int .i64 _] rfl rfl (cells_new _ [.int .i64 _, .string _, .int .i64 _, .int .i64 _] _) (tok_cell _ _ _ _) (by unfold maxLen; omega) (by omega) (by rw [World.size_alloc]; omega) ?_; intro v' w9 hown9 hgrow _; have hbel9 := below_app hbel hqw hown hgrow; have hh9 : w9.heap[r]? = some (.cells #[.int .i64 0, .int .i64 0] 71 (0, 0)) := (hbel9.block r hrq).trans Hh1.out; have e0 : w9.cell? ⟨r, 0, none⟩ = some (.int .i64 0) := (Lib.cell_of_heap hh9 _).trans rfl; have e1 : w9.cell? ⟨r, 1, none⟩ = some (.int .i64 0) := (Lib.cell_of_heap hh9 _).trans rfl; have g0 := Lib.frozen_of_heap hh9 0; have g1 := Lib.frozen_of_heap hh9 1; clear hh9)))
                                go_roundw
                                case rel => first | exact ⟨j, l ++ [⟨3, t, n, k⟩], by omega, rfl, own_tok hown9 rfl rfl rfl rfl, hbel9, by simp; omega, by rw [← HT.out]; exact HS.out.symm⟩ | ((repeat apply Exists.intro); exact ⟨⟨j, l ++ [⟨3, t, n, k⟩], by omega, rfl, own_tok hown9 rfl rfl rfl rfl, hbel9, by simp; omega, by rw [← HT.out]; exact HS.out.symm⟩, rfl⟩)
                                case measure => simp [intOf]; omega
                              · rw [if_pos (of_decide_eq_true Hzl.out)] at HNA
                                have HBAD : Hid (scanFrom s k l = .inl j) := Lib.hid (scan_bad hlt Hbl.out H35.out HNA.out)
                                go_wp2_with (first | (at_builtin; go_loud (refine wpList_append_own _ rfl (.tmp 147) (.tmp 155) 69 rfl q 75 i0 (.agg #[.int .i64 0, .string ⟨#[]⟩, .int .i64 0, .int .i64 0]) 4 40 Tryd.underlying69 hif hz0 hz1 hz2 rfl (by decide) _ l.length _ rfl (hown.alloc _) ⟨wo.heap.size, 0, none⟩ 1 1 [.int .i64 _, .string _, .int .i64 _, .int .i64 _] rfl rfl (cells_new _ [.int .i64 _, .string _, .int .i64 _, .int .i64 _] _) (tok_cell _ _ _ _) (by unfold maxLen; omega) (by omega) (by rw [World.size_alloc]; omega) ?_; intro v' w9 hown9 hgrow _; have hbel9 := below_app hbel hqw hown hgrow; have hh9 : w9.heap[r]? = some (.cells #[.int .i64 0, .int .i64 0] 71 (0, 0)) := (hbel9.block r hrq).trans Hh1.out; have e0 : w9.cell? ⟨r, 0, none⟩ = some (.int .i64 0) := (Lib.cell_of_heap hh9 _).trans rfl; have e1 : w9.cell? ⟨r, 1, none⟩ = some (.int .i64 0) := (Lib.cell_of_heap hh9 _).trans rfl; have g0 := Lib.frozen_of_heap hh9 0; have g1 := Lib.frozen_of_heap hh9 1; clear hh9)))
                                refine bodyPost_ret (v := .tuple #[.slice none 0 0, faultV 9 j]) ?_ rfl ?_
                                · simp [faultV, results, Tryd.results35, go_sem, e0, e1]
                                exact Scan_bad (Hb1.out.trans (hbel9.mono hwq)) hwr (scanAll_bad hs' (by rw [← HT.out]; exact HBAD.out))
                          · rw [if_pos (of_decide_eq_true Hzb.out)] at HNA
                            have HBAD : Hid (scanFrom s k l = .inl k) := Lib.hid (scan_bad hlt Hbl.out H35.out HNA.out)
                            go_wp2_with (first | (at_builtin; go_loud (refine wpList_append_own _ rfl (.tmp 147) (.tmp 155) 69 rfl q 75 i0 (.agg #[.int .i64 0, .string ⟨#[]⟩, .int .i64 0, .int .i64 0]) 4 40 Tryd.underlying69 hif hz0 hz1 hz2 rfl (by decide) _ l.length _ rfl (hown.alloc _) ⟨wo.heap.size, 0, none⟩ 1 1 [.int .i64 _, .string _, .int .i64 _, .int .i64 _] rfl rfl (cells_new _ [.int .i64 _, .string _, .int .i64 _, .int .i64 _] _) (tok_cell _ _ _ _) (by unfold maxLen; omega) (by omega) (by rw [World.size_alloc]; omega) ?_; intro v' w9 hown9 hgrow _; have hbel9 := below_app hbel hqw hown hgrow; have hh9 : w9.heap[r]? = some (.cells #[.int .i64 0, .int .i64 0] 71 (0, 0)) := (hbel9.block r hrq).trans Hh1.out; have e0 : w9.cell? ⟨r, 0, none⟩ = some (.int .i64 0) := (Lib.cell_of_heap hh9 _).trans rfl; have e1 : w9.cell? ⟨r, 1, none⟩ = some (.int .i64 0) := (Lib.cell_of_heap hh9 _).trans rfl; have g0 := Lib.frozen_of_heap hh9 0; have g1 := Lib.frozen_of_heap hh9 1; clear hh9)))
                            refine bodyPost_ret (v := .tuple #[.slice none 0 0, faultV 9 k]) ?_ rfl ?_
                            · simp [faultV, results, Tryd.results35, go_sem, e0, e1]
                            exact Scan_bad (Hb1.out.trans (hbel9.mono hwq)) hwr (scanAll_bad hs' (by rw [← HT.out]; exact HBAD.out))
              · have hdi' : isDigit u = false := Bool.eq_false_iff.2 hdi
                have Hdi := Lib.hid hdi'
                clear hdi hdi'
                by_cases h34 : u = 34
                · subst h34
                  have hk0 : (0 : Int) ≤ (k : Int) := by omega
                  as_aux_lemma =>
                    have HTK := Lib.hid (token_quote Hb.out rfl)
                    obtain ⟨kd, tx, nm, pl, je, be, HV, hcase⟩ : ∃ (kd : Nat) (tx : ByteArray) (nm pl : Nat) (je be : Int), refTextV (textAt s k) = .tuple #[.agg #[.int .i64 kd, .string tx, .int .i64 nm, .int .i64 pl], .int .i64 je, .int .i64 be] ∧ ((∃ a : Nat, be = a ∧ tokenAt s k = .inl a) ∨ (∃ j : Nat, be = -1 ∧ je = j ∧ j ≤ s.size ∧ k < j ∧ tokenAt s k = .inr (⟨kd, tx, nm, pl⟩, j))) := by
                      cases h : textAt s k with
                      | inl a => exact ⟨0, ⟨#[]⟩, 0, 0, 0, a, rfl, Or.inl ⟨a, rfl, by rw [HTK.out, h]⟩⟩
                      | inr p =>
                        obtain ⟨⟨kd, tx, nm, pl⟩, j⟩ := p
                        have h2 : tokenAt s k = .inr (⟨kd, tx, nm, pl⟩, j) := by rw [HTK.out, h]
                        have h3 := tokenAt_gt hlt h2
                        exact ⟨kd, tx, nm, pl, j, -1, rfl, Or.inr ⟨j, rfl, rfl, h3.2.1, h3.1, h2⟩⟩
                    have HX : Hid (∀ W, Calls Tryd.prog 76 #[.string s, .int .i64 k] W fun e w' => e = .returned (.tuple #[.agg #[.int .i64 kd, .string tx, .int .i64 nm, .int .i64 pl], .int .i64 je, .int .i64 be]) ∧ Below W.heap.size W w') := Lib.hid fun W => by have := rtext_any s k W hlt hs'; rw [HV] at this; exact this
                    have HC := Lib.hid hcase
                    have HL := Lib.hid (rname_f Hle.out)
                    have HD := Lib.hid (rdig_f Hdi.out)
                    clear HV hcase hhr
                    obtain ⟨wa, hwa⟩ : ∃ wa, wo.alloc (.cells #[.int .i64 0, .string ⟨#[]⟩, .int .i64 0, .int .i64 0] 75) = wa := ⟨_, rfl⟩
                    obtain ⟨p, hp⟩ : ∃ p, wo.heap.size = p := ⟨_, rfl⟩
                    have HPA : Hid (wa.heap[p]? = some (.cells #[.int .i64 0, .string ⟨#[]⟩, .int .i64 0, .int .i64 0] 75 (0, 0))) := Lib.hid (by rw [← hwa, ← hp]; exact heap_new _ _)
                    have hpa : p < wa.heap.size := by rw [← hwa, ← hp, World.size_alloc]; omega
                    have HBA : Hid (Below p wo wa) := Lib.hid (by rw [← hwa, ← hp]; exact (Below.refl _ _).alloc (Nat.le_refl _) _)
                    have HP := Lib.hid hp
                    go_upto_region 37 with (first | (go_at_call 73; refine (HL.out _).mono ?_; rintro e w2 ⟨rfl, rfl⟩) | (go_at_call 74; refine (HD.out _).mono ?_; rintro e w2 ⟨rfl, rfl⟩))
                    clear hwa hp
                    go_upto_region 38 with (first | (go_at_call 76; refine (HX.out _).mono ?_; rintro e w2 ⟨rfl, hb2⟩; have hp2 : w2.heap[p]? = some (.cells #[.int .i64 0, .string ⟨#[]⟩, .int .i64 0, .int .i64 0] 75 (0, 0)) := (hb2.block p hpa).trans HPA.out; have d0 : w2.cell? ⟨p, 0, none⟩ = some (.int .i64 0) := (Lib.cell_of_heap hp2 _).trans rfl; have d1 : w2.cell? ⟨p, 1, none⟩ = some (.string ⟨#[]⟩) := (Lib.cell_of_heap hp2 _).trans rfl; have d2 : w2.cell? ⟨p, 2, none⟩ = some (.int .i64 0) := (Lib.cell_of_heap hp2 _).trans rfl; have d3 : w2.cell? ⟨p, 3, none⟩ = some (.int .i64 0) := (Lib.cell_of_heap hp2 _).trans rfl; have f0 := Lib.frozen_of_heap hp2 0; have f1 := Lib.frozen_of_heap hp2 1; have f2 := Lib.frozen_of_heap hp2 2; have f3 := Lib.frozen_of_heap hp2 3))
                    obtain ⟨w3, hw3⟩ : ∃ w3, ((((w2.setCell ⟨p, 0, none⟩ (.int .i64 kd)).setCell ⟨p, 1, none⟩ (.string tx)).setCell ⟨p, 2, none⟩ (.int .i64 nm)).setCell ⟨p, 3, none⟩ (.int .i64 pl)) = w3 := ⟨_, rfl⟩
                    have hp3 : w3.heap[p]? = some (.cells #[.int .i64 kd, .string tx, .int .i64 nm, .int .i64 pl] 75 (0, 0)) := by rw [← hw3]; exact set4_heap hp2 _ _ _ _
                    have hb3 : Below wo.heap.size wo w3 := by rw [← hw3]; exact below_set4 (by rw [HP.out]; exact HBA.out.trans (hb2.mono (by omega))) (by rw [HP.out]; exact Nat.le_refl _) _ _ _ _
                    rw [hw3]
                    clear hw3 d0 d1 d2 d3 f0 f1 f2 f3 hp2 hb2
                    have c0 : w3.cell? ⟨p, 0, none⟩ = some (.int .i64 kd) := by rw [Lib.cell_of_heap hp3]; rfl
                    have c1 : w3.cell? ⟨p, 1, none⟩ = some (.string tx) := by rw [Lib.cell_of_heap hp3]; rfl
                    have c2 : w3.cell? ⟨p, 2, none⟩ = some (.int .i64 nm) := by rw [Lib.cell_of_heap hp3]; rfl
                    have c3 : w3.cell? ⟨p, 3, none⟩ = some (.int .i64 pl) := by rw [Lib.cell_of_heap hp3]; rfl
                    have hown3 := ownsRow_old hown hb3
                    have hbel3 := hbel.trans (hb3.mono hqw)
                    have hqw3 : q ≤ w3.heap.size := by have := hb3.size; omega
                    clear hp3 hb3 hown
                    rcases HC.out with ⟨a, rfl, ha⟩ | ⟨j, rfl, rfl, hjs, hkj, hj⟩
                    · have HBAD : Hid (scanFrom s k l = .inl a) := Lib.hid (scan_bad hlt Hbl.out H35.out ha)
                      have ha0 : (0 : Int) ≤ (a : Int) := by omega
                      clear ha HC
                      go_wp2_with (first | (at_builtin; go_loud (refine wpList_append_own _ rfl (.tmp 167) (.tmp 169) 69 rfl q 75 i0 (.agg #[.int .i64 0, .string ⟨#[]⟩, .int .i64 0, .int .i64 0]) 4 40 Tryd.underlying69 hif hz0 hz1 hz2 rfl (by decide) _ l.length _ rfl (hown3.alloc _) ⟨w3.heap.size, 0, none⟩ 1 1 [.int .i64 _, .string _, .int .i64 _, .int .i64 _] rfl rfl (cells_new _ [.int .i64 _, .string _, .int .i64 _, .int .i64 _] _) (tok_cell _ _ _ _) (by unfold maxLen; omega) (by omega) (by rw [World.size_alloc]; omega) ?_; intro v' w9 hown9 hgrow _; have hbel9 := below_app hbel3 hqw3 hown3 hgrow; have hh9 : w9.heap[r]? = some (.cells #[.int .i64 0, .int .i64 0] 71 (0, 0)) := (hbel9.block r hrq).trans Hh1.out; have e0 : w9.cell? ⟨r, 0, none⟩ = some (.int .i64 0) := (Lib.cell_of_heap hh9 _).trans rfl; have e1 : w9.cell? ⟨r, 1, none⟩ = some (.int .i64 0) := (Lib.cell_of_heap hh9 _).trans rfl; have g0 := Lib.frozen_of_heap hh9 0; have g1 := Lib.frozen_of_heap hh9 1; clear hh9)))
                      refine bodyPost_ret (v := .tuple #[.slice none 0 0, faultV 9 a]) ?_ rfl ?_
                      · simp [faultV, results, Tryd.results35, go_sem, e0, e1]
                      exact Scan_bad (Hb1.out.trans (hbel9.mono hwq)) hwr (scanAll_bad hs' (by rw [← HT.out]; exact HBAD.out))
                    · have HS : Hid (scanFrom s k l = scanFrom s j (l ++ [⟨kd, tx, nm, pl⟩])) := Lib.hid (scan_here hlt Hbl.out H35.out hj)
                      clear hj HC
                      go_wp2_with (first | (at_builtin; go_loud (refine wpList_append_own _ rfl (.tmp 167) (.tmp 169) 69 rfl q 75 i0 (.agg #[.int .i64 0, .string ⟨#[]⟩, .int .i64 0, .int .i64 0]) 4 40 Tryd.underlying69 hif hz0 hz1 hz2 rfl (by decide) _ l.length _ rfl (hown3.alloc _) ⟨w3.heap.size, 0, none⟩ 1 1 [.int .i64 _, .string _, .int .i64 _, .int .i64 _] rfl rfl (cells_new _ [.int .i64 _, .string _, .int .i64 _, .int .i64 _] _) (tok_cell _ _ _ _) (by unfold maxLen; omega) (by omega) (by rw [World.size_alloc]; omega) ?_; intro v' w9 hown9 hgrow _; have hbel9 := below_app hbel3 hqw3 hown3 hgrow; have hh9 : w9.heap[r]? = some (.cells #[.int .i64 0, .int .i64 0] 71 (0, 0)) := (hbel9.block r hrq).trans Hh1.out; have e0 : w9.cell? ⟨r, 0, none⟩ = some (.int .i64 0) := (Lib.cell_of_heap hh9 _).trans rfl; have e1 : w9.cell? ⟨r, 1, none⟩ = some (.int .i64 0) := (Lib.cell_of_heap hh9 _).trans rfl; have g0 := Lib.frozen_of_heap hh9 0; have g1 := Lib.frozen_of_heap hh9 1; clear hh9)))
                      go_roundw
                      case rel => first | exact ⟨j, l ++ [⟨kd, tx, nm, pl⟩], by omega, rfl, own_tok hown9 rfl rfl rfl rfl, hbel9, by simp; omega, by rw [← HT.out]; exact HS.out.symm⟩ | ((repeat apply Exists.intro); exact ⟨⟨j, l ++ [⟨kd, tx, nm, pl⟩], by omega, rfl, own_tok hown9 rfl rfl rfl rfl, hbel9, by simp; omega, by rw [← HT.out]; exact HS.out.symm⟩, rfl⟩)
                      case measure => simp [intOf]; omega
                · have e34 : ((u : Int) == 34) = false := by rw [beq_eq_false_iff_ne]; omega
                  have hk0 : (0 : Int) ≤ (k : Int) := by omega
                  as_aux_lemma =>
                    have HL := Lib.hid (rname_f Hle.out)
                    have HD := Lib.hid (rdig_f Hdi.out)
                    by_cases hm : isMark u = true
                    · have HS : Hid (scanFrom s k l = scanFrom s (k + 1) (l ++ [⟨5, ⟨#[UInt8.ofNat u]⟩, 0, k⟩])) := Lib.hid (scan_here hlt Hbl.out H35.out (token_mark Hb.out Hle.out Hdi.out h34 hm))
                      have HM := Lib.hid (rmark_b hu8 hm)
                      obtain ⟨mt, hmt⟩ : ∃ mt : ByteArray, s.extract k (k + 1) = mt := ⟨_, rfl⟩
                      have Hmt : Hid ((⟨#[UInt8.ofNat u]⟩ : ByteArray) = mt) := Lib.hid (by rw [← hmt, mark_text hlt, Hb.out])
                      clear hm h34 hhr
                      go_wp2_with (first | (go_at_call 73; refine (HL.out _).mono ?_; rintro e w2 ⟨rfl, rfl⟩) | (go_at_call 74; refine (HD.out _).mono ?_; rintro e w2 ⟨rfl, rfl⟩) | (go_at_call 77; refine (HM.out _).mono ?_; rintro e w2 ⟨rfl, rfl⟩) | (at_builtin; go_loud (refine wpList_append_own _ rfl (.tmp 176) (.tmp 183) 69 rfl q 75 i0 (.agg #[.int .i64 0, .string ⟨#[]⟩, .int .i64 0, .int .i64 0]) 4 40 Tryd.underlying69 hif hz0 hz1 hz2 rfl (by decide) _ l.length _ rfl (hown.alloc _) ⟨wo.heap.size, 0, none⟩ 1 1 [.int .i64 _, .string _, .int .i64 _, .int .i64 _] rfl rfl (cells_new _ [.int .i64 _, .string _, .int .i64 _, .int .i64 _] _) (tok_cell _ _ _ _) (by unfold maxLen; omega) (by omega) (by rw [World.size_alloc]; omega) ?_; intro v' w9 hown9 hgrow _; have hbel9 := below_app hbel hqw hown hgrow; have hh9 : w9.heap[r]? = some (.cells #[.int .i64 0, .int .i64 0] 71 (0, 0)) := (hbel9.block r hrq).trans Hh1.out; have e0 : w9.cell? ⟨r, 0, none⟩ = some (.int .i64 0) := (Lib.cell_of_heap hh9 _).trans rfl; have e1 : w9.cell? ⟨r, 1, none⟩ = some (.int .i64 0) := (Lib.cell_of_heap hh9 _).trans rfl; have g0 := Lib.frozen_of_heap hh9 0; have g1 := Lib.frozen_of_heap hh9 1; clear hh9)))
                      go_roundw
                      case rel => first | exact ⟨k + 1, l ++ [⟨5, ⟨#[UInt8.ofNat u]⟩, 0, k⟩], by omega, by go_num, own_tok hown9 rfl Hmt.out rfl rfl, hbel9, by simp; omega, by rw [← HT.out]; exact HS.out.symm⟩ | ((repeat apply Exists.intro); exact ⟨⟨k + 1, l ++ [⟨5, ⟨#[UInt8.ofNat u]⟩, 0, k⟩], by omega, by go_num, own_tok hown9 rfl Hmt.out rfl rfl, hbel9, by simp; omega, by rw [← HT.out]; exact HS.out.symm⟩, rfl⟩)
                      case measure => simp [intOf]; omega
                    · have HBAD : Hid (scanFrom s k l = .inl k) := Lib.hid (scan_bad hlt Hbl.out H35.out (token_none Hb.out Hle.out Hdi.out h34 hm))
                      have HM := Lib.hid (rmark_b hu8 (Bool.eq_false_iff.2 hm))
                      clear hm h34
                      have e0 : wo.cell? ⟨r, 0, none⟩ = some (.int .i64 0) := by rw [Lib.cell_of_heap hhr]; rfl
                      have e1 : wo.cell? ⟨r, 1, none⟩ = some (.int .i64 0) := by rw [Lib.cell_of_heap hhr]; rfl
                      have g0 := Lib.frozen_of_heap hhr 0
                      have g1 := Lib.frozen_of_heap hhr 1
                      clear hhr
                      go_wp2_with (first | (go_at_call 73; refine (HL.out _).mono ?_; rintro e w2 ⟨rfl, rfl⟩) | (go_at_call 74; refine (HD.out _).mono ?_; rintro e w2 ⟨rfl, rfl⟩) | (go_at_call 77; refine (HM.out _).mono ?_; rintro e w2 ⟨rfl, rfl⟩))
                      refine bodyPost_ret (v := .tuple #[.slice none 0 0, faultV 9 k]) ?_ rfl ?_
                      · simp [faultV, results, Tryd.results35, go_sem, e0, e1]
                      exact Scan_bad HBW.out hwr (scanAll_bad hs' (by rw [← HT.out]; exact HBAD.out))
      · as_aux_lemma =>
          have HALL : Hid (scanAll s = .inr (l ++ [⟨6, ⟨#[]⟩, 0, s.size⟩])) := Lib.hid (scanAll_ok hs' (by rw [← HT.out]; exact scan_stop hlt hk))
          go_wp2_with (first | (at_builtin; go_loud (refine wpList_append_own _ rfl (.tmp 190) (.tmp 194) 69 rfl q 75 i0 (.agg #[.int .i64 0, .string ⟨#[]⟩, .int .i64 0, .int .i64 0]) 4 40 Tryd.underlying69 hif hz0 hz1 hz2 rfl (by decide) _ l.length _ rfl (hown.alloc _) ⟨wo.heap.size, 0, none⟩ 1 1 [.int .i64 _, .string _, .int .i64 _, .int .i64 _] rfl rfl (cells_new _ [.int .i64 _, .string _, .int .i64 _, .int .i64 _] _) (tok_cell _ _ _ _) (by unfold maxLen; omega) (by omega) (by rw [World.size_alloc]; omega) ?_; intro v' w9 hown9 hgrow _; have hbel9 := below_app hbel hqw hown hgrow; have hh9 : w9.heap[r]? = some (.cells #[.int .i64 0, .int .i64 0] 71 (0, 0)) := (hbel9.block r hrq).trans Hh1.out; have e0 : w9.cell? ⟨r, 0, none⟩ = some (.int .i64 0) := (Lib.cell_of_heap hh9 _).trans rfl; have e1 : w9.cell? ⟨r, 1, none⟩ = some (.int .i64 0) := (Lib.cell_of_heap hh9 _).trans rfl; have g0 := Lib.frozen_of_heap hh9 0; have g1 := Lib.frozen_of_heap hh9 1; clear hh9)))
          have hh9 : w9.heap[r]? = some (.cells #[.int .i64 0, .int .i64 0] 71 (0, 0)) := by rw [hbel9.block r hrq]; exact Hh1.out
          refine bodyPost_ret (v := .tuple #[v', faultV 0 0]) ?_ rfl ?_
          · simp [faultV, results, Tryd.results35, go_sem, e0, e1]
          exact Scan_ok (Hb1.out.trans (hbel9.mono hwq)) hwr hwq hh9 (own_tok hown9 rfl rfl rfl rfl) HALL.out
end Go.Proofs.YtaijdpckkobofaaDoor
