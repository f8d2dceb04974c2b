/- For all bytes, lex.Quote tells them as the reference does, and they are scanned again as the same bytes (the first 1500): shallotlaw21.LexQuotes returns true, and the bytes read as they did. No condition; the listed variables lie as the program's text lays them (the card ties them). -/
import Derived.Test.YtaijdpckkobofaaDoorLaw21r
import Derived.Test.YtaijdpckkobofaaDoorOpenBytes
import Derived.Test.YtaijdpckkobofaaDoorLaid21
import Derived.Deep.Strs
import Derived.Carry
import Derived.SizedLaws
namespace Go.Proofs.YtaijdpckkobofaaDoor.lexQuotes
open Go.ChangeShapes Go.WideShapes Go.ChangeAt Go.RowKit

theorem laidOut : laidOutB Tryd.prog = true := by kernel_rfl
theorem deB_named : Tryd.prog.globalNamed "math/bits.deBruijn64tab" = some 6 := by kernel_rfl
theorem deB_type : (Tryd.prog.globals[6]?).map (·.type) = some 237 := by kernel_rfl
theorem cellsA64 : Tryd.prog.cellsOf 237 = 64 := by kernel_rfl
theorem tz_of {W : World} (hL : laidMet Tryd.prog laid21 W) : W.cell? ⟨6, 15, none⟩ = some (.int .u8 4) := by
  have hr : Lib.VarReads Tryd.prog W "math/bits.deBruijn64tab" Rows.laid_math_bits_deBruijn64tab := Lib.laidMet.reads hL (.tail _ (.head _))
  obtain ⟨g', t', cs, fuel, p, hg', ht', hvar, hd⟩ := hr
  obtain rfl := Option.some.inj (deB_named.symm.trans hg')
  obtain rfl := Option.some.inj (deB_type.symm.trans ht')
  have h0 := World.var?_cell deB_named hvar 15
  have hc := Lib.cells_of_tab Tryd.underlying237 Tryd.underlying5 cellsU8 cellsA64 (zs := deB64b) hd
  rw [h0, ← Array.getElem?_toList, hc]
  rfl

set_option maxRecDepth 100000 in
theorem contract (H : Type) (enc : TypeId × Value → H) (W : World) (base : Nat) (args : Array Value) (ds gs : List (DataW H)) (before : List MemPlace)
    (hval : ∀ (j : Nat) t v, Tryd.f7.params[j]? = some t → args[j]? = some v → Value.okWide Tryd.prog W .any base t v)
    (hW : DataW.Whole enc Tryd.prog Tryd.f7.params.toList Rows.lexQuotesSpec.vars false W args.toList ds gs before) (hL : laidMetH Tryd.prog Rows.lexQuotesRow.laid W) (hsh : W.ShapedOpen Tryd.prog) :
    Calls Tryd.prog 7 args W fun e W' => ∃ v, e = .returned v ∧ Rows.lexQuotesSpec.post enc Tryd.prog Tryd.f7 false true false false W args v W' := by
  have hW' := hW
  obtain ⟨p, q, hA0, hV, rfl, hfz, hnd⟩ := hW
  have hA : DataW.TrodAll enc Tryd.prog W 0 (fun _ => true) true Tryd.f7.params.toList args.toList ds p := hA0
  rw [Tryd.params7] at hA hval
  obtain ⟨v0, d0, rfl, rfl, h0⟩ := trodAll_one hA
  obtain ⟨rfl, rfl⟩ := trodVars_none hV
  have hlt : ∀ x ∈ p, x.block < W.heap.size := fun x hx => by simpa using hW'.lt x (by simpa using hx)
  have h0k := h0
  obtain ⟨fuel, hf⟩ := h0
  obtain ⟨a0, len0, cap0, rfl⟩ := okWide_slice Tryd.underlying35 (hval 0 35 v0 rfl rfl)
  obtain ⟨a, c, l, hcs, hA1, hlc, hcm, hnil⟩ := open_bytes hf
  obtain ⟨rfl, rfl, rfl⟩ : a0 = a ∧ len0 = l.length ∧ cap0 = c := by simpa [Value.cells] using hcs
  have hL2 : laidMet Tryd.prog Rows.lexQuotesRow.laid W := hL
  rw [show Rows.lexQuotesRow.laid = laid21 from laid21_eq] at hL2
  have walk := lexQuotes_walk _ _ _ l W (lexW_of hL2 hsh) hA1 rfl hlc hcm hnil (tz_of hL2)
  clear hA0
  refine walk.mono fun e W' ⟨he, bel⟩ => ?_
  subst he
  refine ⟨_, rfl, _, _, _, [], p, [], hW', ?_, ?_, rfl, bel.frame _, fun h => by cases h⟩
  · exact trodAll_mk1 (shut_bool Tryd.underlying4 _)
  · have := trodAll_mk1 (Below.trod laidOut (by kernel_rfl) (of_decide_eq_true (by kernel_rfl)) h0k bel hlt)
    exact this

theorem witness_row (os : Os) {H : Type} (enc : TypeId × Value → H) :
    (OpenSpec.ofChange Rows.lexQuotesSpec).preRow enc Tryd.prog Tryd.f7 Rows.lexQuotesRow.domain false Rows.lexQuotesRow.laid ((laidWorld21 os).forCall (fun _ _ => 0) ⟨#[], #[.slice none 0 0], []⟩).memory #[.slice none 0 0] := by
  have hw : (DataW.whole enc Tryd.prog ((laidWorld21 os).forCall (fun _ _ => 0) ⟨#[], #[.slice none 0 0], []⟩).memory Tryd.f7.params.toList Rows.lexQuotesSpec.vars false #[Value.slice none 0 0].toList 8).map (fun x => (x.1, x.2.1)) =
      some ([.nil], []) := by kernel_rfl
  obtain ⟨⟨x1, x2, x3⟩, hx, hx1⟩ := Option.map_eq_some_iff.1 hw
  simp only [Prod.mk.injEq] at hx1
  obtain ⟨rfl, rfl⟩ := hx1
  have hm : laidMet Tryd.prog Rows.lexQuotesRow.laid ((laidWorld21 os).forCall (fun _ _ => 0) ⟨#[], #[.slice none 0 0], []⟩).memory := by rw [show Rows.lexQuotesRow.laid = laid21 from laid21_eq]; exact laid21_met os _
  exact OpenSpec.preRow_of_cond 8 hx (by kernel_rfl) (fun k hk => by cases hk) (by kernel_rfl) hm

set_option maxRecDepth 100000 in
set_option maxHeartbeats 2000000 in
theorem lifted (os : Os) (started : os.Started) (H : Type) (enc : TypeId × Value → H) (F : Stop.Interp) :
    ReturnsInHanded {} Tryd.checked os 7 .any ((OpenSpec.ofChange Rows.lexQuotesSpec).preRow enc Tryd.prog Tryd.f7 Rows.lexQuotesRow.domain false Rows.lexQuotesRow.laid) (((OpenSpec.ofChange Rows.lexQuotesSpec).at F).post enc Tryd.prog Tryd.f7 false true false false) := by
  refine returnsInHanded_of_row (C := Tryd.checked) (s := OpenSpec.ofChange Rows.lexQuotesSpec) own21 started (by kernel_rfl) Tryd.func7
    (witness_row_atRef (enc := enc) (C := Tryd.checked) false (laidWorld21 os) #[.slice none 0 0] rfl (by kernel_rfl) (by kernel_rfl) (by kernel_rfl) (witness_row os enc)) ?_
  intro W base args ds gs before hval hW _ _ hsz hL hsh _
  exact contract H enc W base args ds gs before hval hW hL hsh

theorem said : Rows.LexQuotesSaid :=
  OpenClaim.holds_of_cond 7 Tryd.f7 rfl rfl rfl rfl rfl rfl rfl ⟨rfl, rfl, rfl, rfl, rfl⟩ rfl rfl rfl rfl rfl (by kernel_rfl) Tryd.func7 (by kernel_rfl)
    (of_decide_eq_true (by kernel_rfl)) (by unfold Func.isWrapper; rw [if_neg (of_decide_eq_false (by kernel_rfl))]; exact ⟨rfl, rfl⟩)
    (fun os started H enc _ F => by rw [OpenClaim.pre_eq_preRow]; exact lifted os started H enc F)

/-- No parameter wants a stand-in: what the card asks. -/
theorem plain (f : FuncId) (fn : Func) (hf : Tryd.pinned.checked.prog.funcNamed "shallot/shallotlaw21.LexQuotes" = some f) (hfn : Tryd.pinned.checked.prog.funcs[f]? = some fn) :
    true = Tryd.pinned.checked.prog.looks [] ∧ ∀ (j : Nat) t, fn.params[j]? = some t → Tryd.pinned.checked.prog.wantsStandIn t = false := by
  obtain rfl : f = 7 := Option.some.inj ((show Tryd.prog.funcNamed "shallot/shallotlaw21.LexQuotes" = some 7 by kernel_rfl).symm.trans hf) |>.symm
  obtain rfl : fn = Tryd.f7 := (Option.some.inj (Tryd.func7.symm.trans hfn)).symm
  refine ⟨by kernel_rfl, fun j t ht => ?_⟩
  rw [Tryd.params7] at ht
  obtain rfl : t = 35 := by simpa using Array.mem_of_getElem? ht
  exact (show Tryd.prog.wantsStandIn 35 = false by kernel_rfl)

theorem card : Rows.LexQuotesCardSaid :=
  Claim7.holds_tied_plain_at .later [] _ _ _ _ said (fun _ h => by cases h) (by kernel_rfl) (fun _ h => by cases h) lexQuotes_row_tie rfl ⟨rfl, rfl⟩ (by kernel_rfl) rfl plain (by kernel_rfl)
#print axioms card
end Go.Proofs.YtaijdpckkobofaaDoor.lexQuotes
