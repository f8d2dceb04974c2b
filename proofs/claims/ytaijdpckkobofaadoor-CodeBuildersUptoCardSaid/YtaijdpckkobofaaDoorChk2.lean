/- The directory of one node: in form if its name is. -/
import Derived.Test.YtaijdpckkobofaaDoorChk1
import Derived.Deep.MidRow
import Derived.Deep.DeepCutAuto
import Derived.Maps.OwnSet
import Derived.Maps.OwnOps
import Derived.StringKeys
namespace Go.Proofs.YtaijdpckkobofaaDoor
open Go.RowKit Go.Maps Go.WideMaps
set_option linter.unusedVariables false

/-- one node's cells: its name, its number 1, two empty keys -/
structure NodeAt (g : Nat) (s : ByteArray) (w : World) : Prop where
  lt : g < w.heap.size
  ex : ∃ cs : List Value, cs.length = 66 ∧ w.rangeAt g 0 cs ∧ cs[0]? = some (.string s) ∧ cs[1]? = some (.int .u64 1) ∧ ∀ v ∈ cs, v.oneCell' = true

theorem node_size : (Tryd.prog.info? 185).map (·.size) = some 66 := by kernel_rfl
theorem lawS : Keyed Tryd.prog 9 := string_keyed Tryd.underlying9
theorem lawU : Keyed Tryd.prog 142 := int_keyed Tryd.underlying142
theorem zeroI (w : World) : (zeroValue 3).run Tryd.prog w = .ok (.int .i64 0) w := by kernel_rfl

theorem there_new (w : World) (c : Array Value) (t : TypeId) (q n : Nat) (hq : w.heap.size = q) (hn : n ≤ c.size) : (w.alloc (.cells c t)).there q 0 n := by
  subst hq
  intro j hj
  have h := heap_new w (.cells c t)
  constructor
  · rw [Lib.cell_of_heap h, Nat.zero_add, Array.getElem?_eq_getElem (by omega)]; rfl
  · exact Lib.frozen_of_heap h _

theorem grown_setCell (w : World) (b o : Nat) (v : Value) : w.grownBy (w.setCell ⟨b, o, none⟩ v) (some b) :=
  ⟨rfl, rfl, rfl, by simp [World.setCell], fun k _ hk => Below.heap_setCell _ _ _ _ (fun e => hk (by rw [e]))⟩
theorem grown_setCells (b : Nat) : ∀ (vs : List Value) (o : Nat) (w : World), w.grownBy (w.setCells b o vs) (some b)
  | [], o, w => World.grownBy.refl _ _
  | v :: vs, o, w => by
    unfold World.setCells
    exact (grown_setCell w b o v).trans (grown_setCells b vs (o + 1) _)
theorem size_setCells (b : Nat) (vs : List Value) (o : Nat) (w : World) : w.heap.size ≤ (w.setCells b o vs).heap.size := (grown_setCells b vs o w).size

abbrev MapAt (k : TypeId) (b n : Nat) (D : DataW Unit) (w : World) : Prop := w.ownsMap Tryd.prog k (plainElem Tryd.prog 3) b n D

/-- behind the making of both maps and the node's copy -/
theorem node_world (cs : List Value) (s : ByteArray) (w : World) (hcs : cs.length = 66) (h0 : cs[0]? = some (.string s)) (h1 : cs[1]? = some (.int .u64 1)) :
    ∃ w3, ((((w.alloc (.map #[] 0)).alloc (.map #[] 0)).alloc (.cells Tryd.zeroCells185 185)).setCells (w.heap.size + 1 + 1) 0 cs) = w3 ∧ MapAt 9 w.heap.size 0 (.map []) w3 ∧ MapAt 142 (w.heap.size + 1) 0 (.map []) w3 ∧
      w3.cell? ⟨w.heap.size + 1 + 1, 0, none⟩ = some (.string s) ∧ w3.cell? ⟨w.heap.size + 1 + 1, 1, none⟩ = some (.int .u64 1) ∧ Below w.heap.size w w3 ∧ w.heap.size + 1 + 1 < w3.heap.size := by
  refine ⟨_, rfl, ?_, ?_, ?_, ?_, ?_, ?_⟩
  · exact (((World.ownsMap_made w _ _ _).alloc _).alloc _).kept (grown_setCells _ _ _ _) (by simp; omega)
  · have h := World.ownsMap_made (w.alloc (.map #[] 0)) Tryd.prog 142 (plainElem (H := Unit) Tryd.prog 3)
    rw [World.size_alloc] at h
    exact (h.alloc _).kept (grown_setCells _ _ _ _) (by simp)
  · have ht : ((((w.alloc (.map #[] 0)).alloc (.map #[] 0)).alloc (.cells Tryd.zeroCells185 185))).there (w.heap.size + 1 + 1) 0 cs.length := there_new _ _ _ _ _ (by rw [World.size_alloc, World.size_alloc]) (by rw [hcs]; exact of_decide_eq_true (by kernel_rfl))
    exact World.rangeAt_setCells_same _ _ _ _ ht 0 _ h0
  · have ht : ((((w.alloc (.map #[] 0)).alloc (.map #[] 0)).alloc (.cells Tryd.zeroCells185 185))).there (w.heap.size + 1 + 1) 0 cs.length := there_new _ _ _ _ _ (by rw [World.size_alloc, World.size_alloc]) (by rw [hcs]; exact of_decide_eq_true (by kernel_rfl))
    exact World.rangeAt_setCells_same _ _ _ _ ht 1 _ h1
  · refine Below.grown ((((Below.refl _ _).alloc (Nat.le_refl _) _).alloc (by rw [World.size_alloc]; omega) _).alloc (by rw [World.size_alloc, World.size_alloc]; omega) _) (grown_setCells _ _ _ _) (by rw [World.size_alloc, World.size_alloc, World.size_alloc]; omega) (fun k hk => ?_)
    injection hk with hk
    omega
  · have := size_setCells (w.heap.size + 1 + 1) cs 0 (((w.alloc (.map #[] 0)).alloc (.map #[] 0)).alloc (.cells Tryd.zeroCells185 185))
    rw [World.size_alloc, World.size_alloc, World.size_alloc] at this
    omega

set_option maxRecDepth 100000 in
set_option maxHeartbeats 1000000 in
theorem dirCheck_one (g : Nat) (s : ByteArray) (w : World) (h : NodeAt g s w) :
    Calls Tryd.prog 122 #[.slice (some ⟨g, 0, none⟩) 1 1] w fun e w' => e = .returned (.int .i64 (if nameOk s.data.toList then 0 else 3)) ∧ Below w.heap.size w w' := by
  obtain ⟨hg, cs, hcs, hr, h0, h1, hone⟩ := h
  obtain ⟨rv, hrv⟩ : ∃ rv : Int, (if nameOk s.data.toList then (0 : Int) else 3) = rv := ⟨_, rfl⟩
  rw [hrv]
  have HRV := Lib.hid hrv
  clear hrv
  have HR := Lib.hid hr
  have H0 := Lib.hid h0
  obtain ⟨w3, hw3, hm1, hm2, hn0, hn1, hb3, hs3⟩ := node_world cs s w hcs h0 h1
  have HW3 := Lib.hid hw3
  have HM1 := Lib.hid hm1
  have HM2 := Lib.hid hm2
  have HB3 := Lib.hid hb3
  have H1 := Lib.hid h1
  have HC := Lib.hid hcs
  clear hw3 hm1 hm2 hb3
  have HO := Lib.hid hone
  clear hr h0 h1 hcs hone
  have HZ : Hid ((Tryd.prog.info? 185).map (·.size) = some cs.toArray.size) := Lib.hid (by rw [List.size_toArray, HC.out]; exact node_size)
  have HN : Hid (cs.toArray.size ≤ Tryd.zeroCells185.size) := Lib.hid (by rw [List.size_toArray, HC.out]; exact of_decide_eq_true (by kernel_rfl))
  have hmm := @run_makeMap Tryd.prog
  go_enter Tryd.func122, Tryd.ntmps122
  go_wp2_with fail
  refine wp_loop_rounds 2 ?_
  rw [rounds_succ]
  go_upto_region 7 with (first
    | ((refine wpList_load_mid rfl 185 (.tmp 16) rfl g 0 rfl cs _ (World.rangeAt_alloc (World.rangeAt_alloc HR.out _) _) Tryd.underlying185 rfl (by rw [HC.out]; exact node_size) ?_))
    | ((refine wpList_store_mid rfl 185 (.tmp 6) (.tmp 17) rfl (w.heap.size + 1 + 1) 0 cs.toArray rfl rfl (there_new _ _ _ _ _ (by rw [World.size_alloc, World.size_alloc]) HN.out) HZ.out (all_oneCell_toArray HO.out) ?_)))
  rw [HW3.out]
  clear HW3
  have HNM := Lib.hid (fun W => named_any s W)
  by_cases hn : nameOk s.data.toList = true
  · have HX : Hid (rv = 0) := Lib.hid (by rw [← HRV.out]; exact if_pos hn)
    have hlen : s.size ≤ maxLen := by
      rw [nameOk_of] at hn
      simp only [Bool.and_eq_true, decide_eq_true_eq] at hn
      have := hn.1.1.2
      rw [← Lib.size_eq] at this
      unfold maxLen; omega
    have hkey := keyOf_string_mk Tryd.underlying9 hlen
    have hkeyU : keyOf Tryd.prog 142 (.int .u64 1) = some (.int .u64 1) := keyOf_int_mk Tryd.underlying142 (by decide)
    rw [hn] at HNM
    have HKS := Lib.hid hkey
    have HKU := Lib.hid hkeyU
    clear hn hkey hkeyU hlen
    go_upto_region 10 with (first
      | (go_at_call 141; refine (HNM.out _).mono ?_; rintro e w' ⟨rfl, rfl⟩)
      | (at_lookup; refine wpList_lookup_own_int _ rfl _ _ 203 rfl 9 3 .i64 lawS Tryd.underlying203 Tryd.underlying3 (zeroI _) w.heap.size 0 _ rfl HM1.out _ _ rfl HKS.out ?_; intro c hat hwc; obtain rfl : (0 : Int) = c := by simpa [DataW.atKey] using hat)
      | (at_mapUpdate; refine wpList_mapUpdate_own _ rfl _ _ _ 203 rfl 9 3 lawS Tryd.underlying203 _ w.heap.size 0 _ rfl HM1.out (by decide) _ _ _ rfl rfl HKS.out _ [] (plainElem_int Tryd.underlying3 (by decide)) ?_; intro w4 hown4 hgrow4; have HM14 := Lib.hid hown4; have HG4 := Lib.hid hgrow4; clear hown4 hgrow4))
    have hn14 : w4.cell? ⟨w.heap.size + 1 + 1, 1, none⟩ = some (.int .u64 1) := HG4.out.cell hn1 (by simp; omega)
    have HM24 := Lib.hid (HM2.out.kept HG4.out (by simp))
    go_wp2_with (first
      | (at_lookup; refine wpList_lookup_own_int _ rfl _ _ 204 rfl 142 3 .i64 lawU Tryd.underlying204 Tryd.underlying3 (zeroI _) (w.heap.size + 1) 0 _ rfl HM24.out _ _ rfl HKU.out ?_; intro c hat hwc; obtain rfl : (0 : Int) = c := by simpa [DataW.atKey] using hat)
      | (at_mapUpdate; refine wpList_mapUpdate_own _ rfl _ _ _ 204 rfl 142 3 lawU Tryd.underlying204 _ (w.heap.size + 1) 0 _ rfl HM24.out (by decide) _ _ _ rfl rfl HKU.out _ [] (plainElem_int Tryd.underlying3 (by decide)) ?_; intro w5 hown5 hgrow5; have HM25 := Lib.hid hown5; have HG5 := Lib.hid hgrow5; clear hown5 hgrow5))
    have HM15 := Lib.hid (HM14.out.kept HG5.out (by simp))
    have hl1 : (Builtin.len_ #[203] 3 #[.map (some w.heap.size)]).run Tryd.prog w5 = .ok (.int .i64 1) w5 := HM15.out.len Tryd.underlying203 3
    have hl2 : (Builtin.len_ #[204] 3 #[.map (some (w.heap.size + 1))]).run Tryd.prog w5 = .ok (.int .i64 1) w5 := HM25.out.len Tryd.underlying204 3
    rw [rounds_succ]
    go_wp2_with fail
    go_ret
    refine ⟨ret_int (by rw [HX.out]), ?_⟩
    have hb4 := HB3.out.grown HG4.out (by omega) (fun k hk => by injection hk with hk; omega)
    exact hb4.grown HG5.out (by have := HG4.out.size; omega) (fun k hk => by injection hk with hk; omega)
  · have HX : Hid (rv = 3) := Lib.hid (by rw [← HRV.out]; exact if_neg hn)
    rw [Bool.eq_false_iff.2 hn] at HNM
    clear hn
    go_wp2_with (first | (go_at_call 141; refine (HNM.out _).mono ?_; rintro e w' ⟨rfl, rfl⟩))
    go_ret
    exact ⟨ret_int (by rw [HX.out]), HB3.out⟩
end Go.Proofs.YtaijdpckkobofaaDoor
