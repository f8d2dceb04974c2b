/- For every list of instructions, code.Lines tells each instruction as the reference does: shallotlaw18.CodeLines returns true, and the list reads as it did. No condition; the listed tables lie as the program's text lays them (the card ties them). -/
import Derived.Test.YtbaiefkpjkkeoaaDoorLaw18b
import Derived.Test.YtbaiefkpjkkeoaaDoorLaid18
import Derived.Deep.Strs
import Derived.Carry
import Derived.SizedLaws
namespace Go.Proofs.YtbaiefkpjkkeoaaDoor.codeLines
open Go.ChangeShapes Go.WideShapes Go.ChangeAt Go.RowKit

set_option maxRecDepth 100000 in
set_option maxHeartbeats 1000000 in
theorem walk_empty (la : Option Addr) (cap : Nat) (w : World) (hcap : la = none → cap = 0) (ht : Pow w) :
    Calls Tryd.prog 3 #[.slice la 0 cap] w fun e w' => e = .returned (.bool true) ∧ Below w.heap.size w w' := by
  obtain ⟨i0, hi, hz0, hz1, hz2⟩ := info_parts info_instr
  cases la with
  | none =>
    obtain rfl := hcap rfl
    go_enter Tryd.func3, Tryd.ntmps3
    go_wp2_with fail
    refine (awake18 w ht).mono ?_
    rintro e w1 ⟨rfl, hb1⟩
    have hs1 := hb1.size
    go_wp2_with (first | (at_builtin; refine wpList_append_own_none rfl (.tmp 7) (.tmp 8) 22 rfl w1.heap.size 33 i0 3 Tryd.underlying22 hi _ 0 _ rfl (World.ownsRow_lit w1 _ 0 (Nat.le_refl _) (by decide) rfl) rfl ?_))
    refine (lines_empty _ _ _).mono ?_
    rintro e w2 ⟨rfl, hb2⟩
    go_wp2_with fail
    refine wp_loop_rounds 1 ?_
    rw [rounds_succ]
    go_wp2_with fail
    go_ret
    exact ⟨rfl, (hb1.alloc hs1 _).trans (hb2.mono (by rw [World.size_alloc]; omega))⟩
  | some a =>
    go_enter Tryd.func3, Tryd.ntmps3
    go_wp2_with fail
    refine (awake18 w ht).mono ?_
    rintro e w1 ⟨rfl, hb1⟩
    have hs1 := hb1.size
    go_wp2_with (first | (at_builtin; refine wpList_append_own _ rfl (.tmp 7) (.tmp 8) 22 rfl w1.heap.size 33 i0 (.agg #[.int .u8 0, .int .i64 0, .int .i64 0]) 3 24 Tryd.underlying22 hi hz0 hz1 hz2 rfl (by decide) _ 0 _ rfl (World.ownsRow_lit w1 _ 0 (Nat.le_refl _) (by decide) rfl) a 0 cap [] rfl rfl (by intro j u hj; simp at hj) (by intro u hu; cases hu) (by decide) (by decide) (by rw [World.size_alloc]; omega) ?_; intro v' w2 hown2 hgrow _; obtain ⟨la2, cap2, rfl⟩ := own_shape hown2; have hb2 := below_lit_app (Below.refl w1.heap.size w1) hgrow))
    have hs2 := hb2.size
    refine (lines_empty _ _ _).mono ?_
    rintro e w3 ⟨rfl, hb3⟩
    go_wp2_with fail
    refine wp_loop_rounds 1 ?_
    rw [rounds_succ]
    go_wp2_with fail
    go_ret
    exact ⟨rfl, (hb1.trans (hb2.mono hs1)).trans (hb3.mono (by omega))⟩

theorem cellsI : Tryd.prog.cellsOf 33 = 3 := by kernel_rfl
theorem cellsB : Tryd.prog.cellsOf 5 = 1 := by kernel_rfl
theorem cellsN : Tryd.prog.cellsOf 3 = 1 := by kernel_rfl
theorem bytesI : Tryd.prog.bytesOf 33 = 24 := by kernel_rfl
theorem laidOut : laidOutB Tryd.prog = true := by kernel_rfl

theorem len_three {α : Type} {l : List α} (h : l.length = 3) : ∃ a b c, l = [a, b, c] := by
  cases l with
  | nil => simp at h
  | cons a l =>
    cases l with
    | nil => simp at h
    | cons b l =>
      cases l with
      | nil => simp at h
      | cons c l =>
        cases l with
        | nil => exact ⟨a, b, c, rfl⟩
        | cons d l => simp at h
/-- an instruction that came in -/
theorem open_instr {H : Type} {enc : TypeId × Value → H} {W : World} {base : Nat} {sp : Nat → Bool} {held : Bool} {n : Nat} {cs : List Value} {x : DataW H × List MemPlace} (h : DataW.trod enc Tryd.prog W base sp held n 33 cs = some x) :
    ∃ i : Ins, i.ok ∧ cs = [.int .u8 i.op, .int .i64 i.a, .int .i64 i.b] := by
  obtain ⟨y0, y1, y2, m, _, hl, h0, h1, h2⟩ := Deep.trod_struct3 Tryd.underlying33 h
  rw [cellsI] at hl
  obtain ⟨a, b, c, rfl⟩ := len_three hl
  obtain ⟨u, e0, _, w0⟩ := DataW.trod_int Tryd.underlying5 h0
  obtain ⟨v, e1, _, w1⟩ := DataW.trod_int Tryd.underlying3 h1
  obtain ⟨t, e2, _, w2⟩ := DataW.trod_int Tryd.underlying3 h2
  simp only [cellsB, cellsN] at e0 e1 e2
  have b0 := bounds_u8 w0
  have b1 := bounds_i64 w1
  have b2 := bounds_i64 w2
  refine ⟨⟨u.toNat, v, t⟩, ⟨by show u.toNat ≤ 255; omega, b1, b2⟩, ?_⟩
  have hu : ((u.toNat : Nat) : Int) = u := by omega
  show _ = [Value.int .u8 ((u.toNat : Nat) : Int), .int .i64 v, .int .i64 t]
  rw [hu]
  simp at e0 e1 e2
  rw [e0, e1, e2]

theorem lt_of_cell {W : World} {b o : Nat} {v : Value} (h : W.cell? ⟨b, o, none⟩ = some v) : b < W.heap.size := by
  rcases Nat.lt_or_ge b W.heap.size with h' | h'
  · exact h'
  · simp [World.cell?, Array.getElem?_eq_none h'] at h
/-- the list that came in: nothing, or instructions at an address -/
theorem open_list {H : Type} {enc : TypeId × Value → H} {W : World} {fuel : Nat} {cs : List Value} {x : DataW H × List MemPlace} (h : DataW.trod enc Tryd.prog W 0 (fun _ => true) true fuel 22 cs = some x) :
    (∃ la cap, cs = [.slice la 0 cap] ∧ (la = none → cap = 0)) ∨
    ∃ g o cap, ∃ xs : List Ins, ∃ sp : List (DataW H), ∃ el : List (DataW H), cs = [.slice (some ⟨g, o, none⟩) xs.length cap] ∧ 0 < xs.length ∧ g < W.heap.size ∧ InsAt W g o xs ∧ x.1 = .slice el sp ∧ el.length = xs.length := by
  rcases Deep.open_slice Tryd.underlying22 h with ⟨rfl, _⟩ | ⟨a, len, cap, m, n, D, Pl, rfl, hb, hl, hm, hmm, hx, hel⟩
  · exact .inl ⟨none, 0, rfl, fun _ => rfl⟩
  · rcases Nat.eq_zero_or_pos len with rfl | h0
    · exact .inl ⟨some a, cap, rfl, fun e => by cases e⟩
    · right
      simp only [if_true] at hmm
      subst hmm
      have each : ∀ i, ∃ y : Ins, i < m → (y.ok ∧ W.cell? ((a.add (i * 3)).add 0) = some (.int .u8 y.op) ∧ W.cell? ((a.add (i * 3)).add 1) = some (.int .i64 y.a) ∧ W.cell? ((a.add (i * 3)).add 2) = some (.int .i64 y.b)) := by
        intro i
        by_cases hi : i < m
        · obtain ⟨cs', hc, ht⟩ := hel i hi
          rw [cellsI] at hc
          obtain ⟨y, hy, rfl⟩ := open_instr ht
          obtain ⟨_, _, hcell⟩ := World.cells?_some hc
          exact ⟨y, fun _ => ⟨hy, hcell 0 (by omega), hcell 1 (by omega), hcell 2 (by omega)⟩⟩
        · exact ⟨⟨0, 0, 0⟩, fun h => absurd h hi⟩
      obtain ⟨f, hf⟩ := Classical.axiomOfChoice each
      have h00 := (hf 0 (by omega)).2.1
      obtain ⟨g, o, sp⟩ := a
      obtain rfl : sp = none := by simpa [Addr.add] using World.cell?_spot h00
      refine ⟨g, o, m, (List.range len).map f, _, _, by simp, by simpa using h0, ?_, ?_, by rw [hx], by simp⟩
      · rw [add_plain, add_plain] at h00
        exact lt_of_cell h00
      · intro k y hk
        have hkl : k < len := by
          have := (List.getElem?_eq_some_iff.1 hk).1
          simpa using this
        obtain rfl : f k = y := by simpa [hkl] using hk
        have := hf k (by omega)
        simp only [add_plain] at this
        exact this

set_option maxRecDepth 100000 in
theorem contract (H : Type) (enc : TypeId × Value → H) (W : World) (base : Nat) (args : Array Value) (ds gs : List (DataW H)) (before : List MemPlace)
    (hval : ∀ (j : Nat) t v, Tryd.f3.params[j]? = some t → args[j]? = some v → Value.okWide Tryd.prog W .any base t v)
    (hW : DataW.Whole enc Tryd.prog Tryd.f3.params.toList Rows.codeLinesSpec.vars false W args.toList ds gs before) (hL : laidMetH Tryd.prog Rows.codeLinesRow.laid W)
    (hsz : (DataW.weightsEach Tryd.prog (Tryd.f3.params.toList ++ []) (ds ++ gs)).all (· ≤ reachBytes) = true) :
    Calls Tryd.prog 3 args W fun e W' => ∃ v, e = .returned v ∧ Rows.codeLinesSpec.post enc Tryd.prog Tryd.f3 false true false false W args v W' := by
  have hW' := hW
  obtain ⟨p, q, hA0, hV, rfl, hfz, hnd⟩ := hW
  have hA : DataW.TrodAll enc Tryd.prog W 0 (fun _ => true) true Tryd.f3.params.toList args.toList ds p := hA0
  rw [Tryd.params3] at hA hval hsz
  obtain ⟨v0, d0, rfl, rfl, h0⟩ := trodAll_one hA
  obtain ⟨rfl, rfl⟩ := trodVars_none hV
  have hlt : ∀ x ∈ p, x.block < W.heap.size := fun x hx => by simpa using hW'.lt x (by simpa using hx)
  have h0k := h0
  obtain ⟨fuel, hf⟩ := h0
  obtain ⟨a0, len0, cap0, rfl⟩ := okWide_slice Tryd.underlying22 (hval 0 22 v0 rfl rfl)
  have hpow := pow_of hL
  have walk : Calls Tryd.prog 3 #[.slice a0 len0 cap0] W fun e w' => e = .returned (.bool true) ∧ Below W.heap.size W w' := by
    rcases open_list hf with ⟨la, cap, hcs, hc⟩ | ⟨g, o, cap, xs, sp, el, hcs, hpos, hg, hI, hx, hel⟩
    · obtain ⟨rfl, rfl, rfl⟩ : a0 = la ∧ len0 = 0 ∧ cap0 = cap := by simpa [Value.cells] using hcs
      exact walk_empty _ _ W hc hpow
    · obtain ⟨rfl, rfl, rfl⟩ : a0 = some ⟨g, o, none⟩ ∧ len0 = xs.length ∧ cap0 = cap := by simpa [Value.cells] using hcs
      have hx' : d0 = .slice el sp := hx
      subst hx'
      have hr := sized_slice hsz (j := 0) (t := 22) (e := 33) rfl rfl Tryd.underlying22
      rw [bytesI, hel] at hr
      simp only [reachBytes] at hr
      exact codeLines_some g o _ xs W hI hpos hg (by omega) hpow
  clear hA0
  refine walk.mono fun e W' ⟨he, bel⟩ => ?_
  subst he
  refine ⟨_, rfl, _, _, _, [], p, [], hW', ?_, ?_, rfl, bel.frame _, fun h => by cases h⟩
  · exact trodAll_mk1 (shut_bool Tryd.underlying4 _)
  · have := trodAll_mk1 (Below.trod laidOut (by kernel_rfl) (of_decide_eq_true (by kernel_rfl)) h0k bel hlt)
    exact this

theorem witness_row (os : Os) {H : Type} (enc : TypeId × Value → H) :
    (OpenSpec.ofChange Rows.codeLinesSpec).preRow enc Tryd.prog Tryd.f3 Rows.codeLinesRow.domain false Rows.codeLinesRow.laid ((laidWorld os).forCall (fun _ _ => 0) ⟨#[], #[.slice none 0 0], []⟩).memory #[.slice none 0 0] := by
  have hw : (DataW.whole enc Tryd.prog ((laidWorld os).forCall (fun _ _ => 0) ⟨#[], #[.slice none 0 0], []⟩).memory Tryd.f3.params.toList Rows.codeLinesSpec.vars false #[Value.slice none 0 0].toList 8).map (fun x => (x.1, x.2.1)) =
      some ([.nil], []) := by kernel_rfl
  obtain ⟨⟨x1, x2, x3⟩, hx, hx1⟩ := Option.map_eq_some_iff.1 hw
  simp only [Prod.mk.injEq] at hx1
  obtain ⟨rfl, rfl⟩ := hx1
  exact OpenSpec.preRow_of_cond 8 hx (by kernel_rfl) (fun k hk => by cases hk) (by kernel_rfl) (laid_met os _)

set_option maxRecDepth 100000 in
set_option maxHeartbeats 2000000 in
theorem lifted (os : Os) (started : os.Started) (H : Type) (enc : TypeId × Value → H) (F : Stop.Interp) :
    ReturnsInHanded {} Tryd.checked os 3 .any ((OpenSpec.ofChange Rows.codeLinesSpec).preRow enc Tryd.prog Tryd.f3 Rows.codeLinesRow.domain false Rows.codeLinesRow.laid) (((OpenSpec.ofChange Rows.codeLinesSpec).at F).post enc Tryd.prog Tryd.f3 false true false false) := by
  refine returnsInHanded_of_row (C := Tryd.checked) (s := OpenSpec.ofChange Rows.codeLinesSpec) own started (by kernel_rfl) Tryd.func3
    (witness_row_atRef (enc := enc) (C := Tryd.checked) false (laidWorld os) #[.slice none 0 0] rfl (by kernel_rfl) (by kernel_rfl) (by kernel_rfl) (witness_row os enc)) ?_
  intro W base args ds gs before hval hW _ _ hsz hL _ _
  exact contract H enc W base args ds gs before hval hW hL hsz

theorem said : Rows.CodeLinesSaid :=
  OpenClaim.holds_of_cond 3 Tryd.f3 rfl rfl rfl rfl rfl rfl rfl ⟨rfl, rfl, rfl, rfl, rfl⟩ rfl rfl rfl rfl rfl (by kernel_rfl) Tryd.func3 (by kernel_rfl)
    (of_decide_eq_true (by kernel_rfl)) (by unfold Func.isWrapper; rw [if_neg (of_decide_eq_false (by kernel_rfl))]; exact ⟨rfl, rfl⟩)
    (fun os started H enc _ F => by rw [OpenClaim.pre_eq_preRow]; exact lifted os started H enc F)

/-- No parameter wants a stand-in: what the card asks. -/
theorem plain (f : FuncId) (fn : Func) (hf : Tryd.pinned.checked.prog.funcNamed "shallot/shallotlaw18.CodeLines" = some f) (hfn : Tryd.pinned.checked.prog.funcs[f]? = some fn) :
    true = Tryd.pinned.checked.prog.looks [] ∧ ∀ (j : Nat) t, fn.params[j]? = some t → Tryd.pinned.checked.prog.wantsStandIn t = false := by
  obtain rfl : f = 3 := Option.some.inj ((show Tryd.prog.funcNamed "shallot/shallotlaw18.CodeLines" = some 3 by kernel_rfl).symm.trans hf) |>.symm
  obtain rfl : fn = Tryd.f3 := (Option.some.inj (Tryd.func3.symm.trans hfn)).symm
  refine ⟨by kernel_rfl, fun j t ht => ?_⟩
  rw [Tryd.params3] at ht
  obtain rfl : t = 22 := by simpa using Array.mem_of_getElem? ht
  exact (show Tryd.prog.wantsStandIn 22 = false by kernel_rfl)

theorem card : Rows.CodeLinesCardSaid :=
  Claim7.holds_tied_plain_at .later [] _ _ _ _ said (fun _ h => by cases h) (by kernel_rfl) (fun _ h => by cases h) codeLines_row_tie rfl ⟨rfl, rfl⟩ (by kernel_rfl) rfl plain (by kernel_rfl)
#print axioms card
end Go.Proofs.YtbaiefkpjkkeoaaDoor.codeLines
