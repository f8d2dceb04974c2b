/- shallotlaw18.CodeDecodes walked: it returns true. -/
import Derived.Test.YtaijdpckkobofaaDoorRDec6
import Derived.Test.YtaijdpckkobofaaDoorRSame4
import Derived.Test.YtaijdpckkobofaaDoorEnc2
import Derived.Test.YtaijdpckkobofaaDoorLaw18a
namespace Go.Proofs.YtaijdpckkobofaaDoor
open Go.RowKit
set_option linter.unusedVariables false

def zeroP : PProg := ⟨[], [], [], [], 0, 0, 0, 0⟩
def decQ (bs : List UInt8) : PProg := match decodeP bs with | .inl _ => zeroP | .inr p => p
def decK (bs : List UInt8) : Nat := match decodeP bs with | .inl k => k | .inr _ => 0
theorem zeroPrgA (w : World) : PrgA w zeroP none 0 none 0 none 0 none 0 := by
  refine ⟨?_, ?_, ?_, ?_, by decide, by decide, by decide, by decide, ?_, ?_⟩
  all_goals (intro k x hx; simp [zeroP] at hx)
theorem DecOut.prg {bs : List UInt8} {w w' : World} {e : Ending} (h : DecOut bs w e w') :
    Below w.heap.size w w' ∧ ∃ ca ma ra sa cc mc rc sc, e = .returned (.tuple #[prgV (decQ bs) ca cc ma mc ra rc sa sc, .int .i64 (decK bs : Int)]) ∧ PrgA w' (decQ bs) ca cc ma mc ra rc sa sc := by
  obtain ⟨hb, hm⟩ := h
  refine ⟨hb, ?_⟩
  unfold decQ decK
  cases hd : decodeP bs with
  | inl k =>
    rw [hd] at hm
    exact ⟨none, none, none, none, 0, 0, 0, 0, hm, zeroPrgA w'⟩
  | inr p =>
    rw [hd] at hm
    obtain ⟨ca, ma, ra, sa, cc, mc, rc, sc, rfl, ho⟩ := hm
    exact ⟨ca, ma, ra, sa, cc, mc, rc, sc, rfl, ho.prgA⟩
theorem decK_zero {bs : List UInt8} (h : decK bs = 0) : encodeP (decQ bs) = bs ∧ checkP (decQ bs) = 0 := by
  unfold decK decQ at *
  cases hd : decodeP bs with
  | inl k =>
    rw [hd] at h
    simp only at h
    subst h
    exfalso
    unfold decodeP at hd
    split at hd
    · cases hd
    · split at hd
      · cases hd
      · split at hd
        · cases hd
        · split at hd
          · cases hd
          · split at hd
            · rename_i hne
              simp only [Sum.inl.injEq] at hd
              exact hne hd
            · cases hd
  | inr p => exact decode_encode hd

theorem decQ_msgs {bs : List UInt8} : ∀ m ∈ (decQ bs).msgs, m.length ≤ 140737488355328 := by
  intro m hm
  unfold decQ at hm
  cases hd : decodeP bs with
  | inl k => rw [hd] at hm; simp [zeroP] at hm
  | inr p =>
    rw [hd] at hm
    have := (Fit.of (decode_encode hd).2).msg m hm
    omega

set_option maxRecDepth 100000 in
set_option maxHeartbeats 4000000 in
theorem codeDecodes_walk (a : Option Addr) (c n : Nat) (l : List UInt8) (w : World) (hA : BsA w a l) (hn : l.length = n) (hnc : n ≤ c) (h0 : a = none → c = 0) (hb : n ≤ 140737488355328) (ht : Pow w) :
    Calls Tryd.prog 4 #[.slice a n c] w fun e w' => e = .returned (.bool true) ∧ Below w.heap.size w w' := by
  have HAW := Lib.hid (awake18 w ht)
  have HAB : Hid (∀ W, Below w.heap.size w W → BsA W a l) := Lib.hid (fun W hW => hA.below hW)
  have HN := Lib.hid hn
  have H0 := Lib.hid h0
  clear hA ht hn h0
  go_enter Tryd.func4, Tryd.ntmps4
  go_wp2_with fail
  refine HAW.out.mono ?_
  rintro e w1 ⟨rfl, hb1⟩
  have HB1 := Lib.hid hb1
  clear hb1
  go_wp2_with fail
  refine (mcopy a c n l w1 (HAB.out w1 HB1.out) HN.out H0.out hb).mono ?_
  rintro e w2 ⟨v, rfl, ho2, hb2⟩
  obtain ⟨a2, c2, rfl, hA2, hlc2, hnil2, -⟩ := BsA.own ho2
  have HB2 := Lib.hid (HB1.out.trans (hb2.mono HB1.out.size))
  rw [HN.out]
  have HD := Lib.hid (decode_any a2 n c2 l w2 hA2 HN.out hb)
  clear ho2 hb2 hA2 hlc2 hnil2
  go_wp2_with fail
  refine HD.out.mono ?_
  rintro e w3 hd
  obtain ⟨hb3, ca, ma, ra, sa, cc, mc, rc, sc, rfl, hp3⟩ := hd.prg
  obtain ⟨p, hp⟩ : ∃ p, decQ l = p := ⟨_, rfl⟩
  obtain ⟨k, hk⟩ : ∃ k, decK l = k := ⟨_, rfl⟩
  rw [hp] at hp3 ⊢
  rw [hk]
  have HPD := Lib.hid hp
  have HKD := Lib.hid hk
  have HB3 := Lib.hid (HB2.out.trans (hb3.mono HB2.out.size))
  unfold prgV
  obtain ⟨l0, hl0⟩ : ∃ n, p.code.length = n := ⟨_, rfl⟩
  obtain ⟨l1, hl1⟩ : ∃ n, p.msgs.length = n := ⟨_, rfl⟩
  obtain ⟨l2, hl2⟩ : ∃ n, p.routes.length = n := ⟨_, rfl⟩
  obtain ⟨l3, hl3⟩ : ∃ n, p.sends.length = n := ⟨_, rfl⟩
  obtain ⟨v0, hv0⟩ : ∃ n, p.vars = n := ⟨_, rfl⟩
  obtain ⟨v1, hv1⟩ : ∃ n, p.stack = n := ⟨_, rfl⟩
  obtain ⟨v2, hv2⟩ : ∃ n, p.blocks = n := ⟨_, rfl⟩
  obtain ⟨v3, hv3⟩ : ∃ n, p.fuel = n := ⟨_, rfl⟩
  have HL := Lib.hid (show p.code.length = l0 ∧ p.msgs.length = l1 ∧ p.routes.length = l2 ∧ p.sends.length = l3 ∧ p.vars = v0 ∧ p.stack = v1 ∧ p.blocks = v2 ∧ p.fuel = v3 from ⟨hl0, hl1, hl2, hl3, hv0, hv1, hv2, hv3⟩)
  have HPV : Hid (∀ ca cc ma mc ra rc sa sc, prgV p ca cc ma mc ra rc sa sc = .agg #[.slice ca l0 cc, .slice ma l1 mc, .slice ra l2 rc, .slice sa l3 sc, .int .i64 v0, .int .i64 v1, .int .i64 v2, .int .i64 v3]) := Lib.hid (by
    intros; unfold prgV; rw [hl0, hl1, hl2, hl3, hv0, hv1, hv2, hv3])
  rw [hl0, hl1, hl2, hl3, hv0, hv1, hv2, hv3]
  obtain ⟨w4, P, hw4, hPe⟩ : ∃ w4 P, w3.alloc (.cells #[.slice ca l0 cc, .slice ma l1 mc, .slice ra l2 rc, .slice sa l3 sc, .int .i64 v0, .int .i64 v1, .int .i64 v2, .int .i64 v3] 28) = w4 ∧ w3.heap.size = P := ⟨_, _, rfl, rfl⟩
  have hb4 : Below w3.heap.size w3 w4 := by rw [← hw4]; exact (Below.refl _ _).alloc (Nat.le_refl _) _
  have hh4 : w4.heap[P]? = some (.cells #[.slice ca l0 cc, .slice ma l1 mc, .slice ra l2 rc, .slice sa l3 sc, .int .i64 v0, .int .i64 v1, .int .i64 v2, .int .i64 v3] 28 (0, 0)) := by rw [← hw4, ← hPe]; exact heap_new _ _
  have HP4 := Lib.hid (hp3.below hb4)
  have HH4 := Lib.hid hh4
  have HB4 := Lib.hid (HB3.out.trans (hb4.mono HB3.out.size))
  have hPl : P < w4.heap.size := (Array.getElem?_eq_some_iff.1 hh4).1
  have HRD := Lib.hid (rdecode a n c l w4 (HAB.out w4 HB4.out) HN.out hnc H0.out hb)
  have HW4 := Lib.hid hw4
  have HPE := Lib.hid hPe
  clear hd hb3 hp3 hp hk hl0 hl1 hl2 hl3 hv0 hv1 hv2 hv3 hw4 hPe hb4 hh4 HD
  go_upto_region 4 with fail
  rw [HW4.out, HPE.out]
  clear HW4 HPE
  go_wp2_with fail
  refine HRD.out.mono ?_
  rintro e w5 hd
  obtain ⟨hb5, da, ea, fa, ga, dc, ec, fc, gc, rfl, hp5⟩ := hd.prg
  rw [HPD.out] at hp5 ⊢
  rw [HKD.out, HPV.out]
  have HB5 := Lib.hid (HB4.out.trans (hb5.mono HB4.out.size))
  have HH5 := Lib.hid ((hb5.block P hPl).trans HH4.out)
  have HP5 := Lib.hid (HP4.out.below hb5)
  obtain ⟨w6, Q, hw6, hQe⟩ : ∃ w6 Q, w5.alloc (.cells #[.slice da l0 dc, .slice ea l1 ec, .slice fa l2 fc, .slice ga l3 gc, .int .i64 v0, .int .i64 v1, .int .i64 v2, .int .i64 v3] 28) = w6 ∧ w5.heap.size = Q := ⟨_, _, rfl, rfl⟩
  have hb6 : Below w5.heap.size w5 w6 := by rw [← hw6]; exact (Below.refl _ _).alloc (Nat.le_refl _) _
  have hh6 : w6.heap[Q]? = some (.cells #[.slice da l0 dc, .slice ea l1 ec, .slice fa l2 fc, .slice ga l3 gc, .int .i64 v0, .int .i64 v1, .int .i64 v2, .int .i64 v3] 28 (0, 0)) := by rw [← hw6, ← hQe]; exact heap_new _ _
  have HP6 := Lib.hid (HP5.out.below hb6)
  have HQ6 := Lib.hid (hp5.below hb6)
  have hP5 : P < w5.heap.size := (Array.getElem?_eq_some_iff.1 HH5.out).1
  have HH6 := Lib.hid ((hb6.block P hP5).trans HH5.out)
  have HB6 := Lib.hid (HB5.out.trans (hb6.mono HB5.out.size))
  have hP6 : P < w6.heap.size := (Array.getElem?_eq_some_iff.1 HH6.out).1
  have HSM := Lib.hid (rsame p ca ma ra sa cc mc rc sc da ea fa ga dc ec fc gc w6 HP6.out HQ6.out (by rw [← HPD.out]; exact decQ_msgs))
  rw [HPV.out, HPV.out] at HSM
  have HW6 := Lib.hid hw6
  have HQE := Lib.hid hQe
  have y0 : w6.cell? ⟨P, 0, none⟩ = some (.slice ca l0 cc) := (Lib.cell_of_heap HH6.out _).trans rfl
  have y1 : w6.cell? ⟨P, 1, none⟩ = some (.slice ma l1 mc) := (Lib.cell_of_heap HH6.out _).trans rfl
  have y2 : w6.cell? ⟨P, 2, none⟩ = some (.slice ra l2 rc) := (Lib.cell_of_heap HH6.out _).trans rfl
  have y3 : w6.cell? ⟨P, 3, none⟩ = some (.slice sa l3 sc) := (Lib.cell_of_heap HH6.out _).trans rfl
  have y4 : w6.cell? ⟨P, 4, none⟩ = some (.int .i64 v0) := (Lib.cell_of_heap HH6.out _).trans rfl
  have y5 : w6.cell? ⟨P, 5, none⟩ = some (.int .i64 v1) := (Lib.cell_of_heap HH6.out _).trans rfl
  have y6 : w6.cell? ⟨P, 6, none⟩ = some (.int .i64 v2) := (Lib.cell_of_heap HH6.out _).trans rfl
  have y7 : w6.cell? ⟨P, 7, none⟩ = some (.int .i64 v3) := (Lib.cell_of_heap HH6.out _).trans rfl
  have z0 : w6.cell? ⟨Q, 0, none⟩ = some (.slice da l0 dc) := (Lib.cell_of_heap hh6 _).trans rfl
  have z1 : w6.cell? ⟨Q, 1, none⟩ = some (.slice ea l1 ec) := (Lib.cell_of_heap hh6 _).trans rfl
  have z2 : w6.cell? ⟨Q, 2, none⟩ = some (.slice fa l2 fc) := (Lib.cell_of_heap hh6 _).trans rfl
  have z3 : w6.cell? ⟨Q, 3, none⟩ = some (.slice ga l3 gc) := (Lib.cell_of_heap hh6 _).trans rfl
  have z4 : w6.cell? ⟨Q, 4, none⟩ = some (.int .i64 v0) := (Lib.cell_of_heap hh6 _).trans rfl
  have z5 : w6.cell? ⟨Q, 5, none⟩ = some (.int .i64 v1) := (Lib.cell_of_heap hh6 _).trans rfl
  have z6 : w6.cell? ⟨Q, 6, none⟩ = some (.int .i64 v2) := (Lib.cell_of_heap hh6 _).trans rfl
  have z7 : w6.cell? ⟨Q, 7, none⟩ = some (.int .i64 v3) := (Lib.cell_of_heap hh6 _).trans rfl
  clear hd hb5 hp5 hw6 hQe hb6 hh6 HRD
  go_upto_region 5 with fail
  rw [HW6.out, HQE.out]
  clear HW6 HQE
  go_wp2_with fail
  refine HSM.out.mono ?_
  rintro e w7 ⟨rfl, hb7⟩
  have HB7 := Lib.hid (HB6.out.trans (hb7.mono HB6.out.size))
  have HP7 := Lib.hid (HP6.out.below hb7)
  have HH7 := Lib.hid ((hb7.block P hP6).trans HH6.out)
  clear hb7 y0 y1 y2 y3 y4 y5 y6 y7 z0 z1 z2 z3 z4 z5 z6 z7 HSM
  by_cases hk0 : k = 0
  · subst hk0
    obtain ⟨hen, hch⟩ := decK_zero HKD.out
    rw [HPD.out] at hen hch
    have HEN := Lib.hid (encode_any p ca ma ra sa cc mc rc sc w7 HP7.out)
    rw [HPV.out] at HEN
    have HE := Lib.hid hen
    have HC := Lib.hid hch
    clear hen hch
    have y0 : w7.cell? ⟨P, 0, none⟩ = some (.slice ca l0 cc) := (Lib.cell_of_heap HH7.out _).trans rfl
    have y1 : w7.cell? ⟨P, 1, none⟩ = some (.slice ma l1 mc) := (Lib.cell_of_heap HH7.out _).trans rfl
    have y2 : w7.cell? ⟨P, 2, none⟩ = some (.slice ra l2 rc) := (Lib.cell_of_heap HH7.out _).trans rfl
    have y3 : w7.cell? ⟨P, 3, none⟩ = some (.slice sa l3 sc) := (Lib.cell_of_heap HH7.out _).trans rfl
    have y4 : w7.cell? ⟨P, 4, none⟩ = some (.int .i64 v0) := (Lib.cell_of_heap HH7.out _).trans rfl
    have y5 : w7.cell? ⟨P, 5, none⟩ = some (.int .i64 v1) := (Lib.cell_of_heap HH7.out _).trans rfl
    have y6 : w7.cell? ⟨P, 6, none⟩ = some (.int .i64 v2) := (Lib.cell_of_heap HH7.out _).trans rfl
    have y7 : w7.cell? ⟨P, 7, none⟩ = some (.int .i64 v3) := (Lib.cell_of_heap HH7.out _).trans rfl
    go_wp2_with fail
    refine HEN.out.mono ?_
    rintro e w8 ⟨hb8, ⟨hx, -⟩ | ⟨-, v, rfl, ho8⟩⟩
    · exact absurd HC.out hx
    rw [HE.out, HN.out] at ho8
    obtain ⟨a8, c8, rfl, hA8, hlc8, -, -⟩ := BsA.own ho8
    rw [HN.out]
    have HB8 := Lib.hid (HB7.out.trans (hb8.mono HB7.out.size))
    have HEQ := Lib.hid (requal a8 a c8 c n n l l w8 hA8 (HAB.out w8 HB8.out) HN.out HN.out hb hb true (by simp))
    clear hb8 ho8 hA8 hlc8 y0 y1 y2 y3 y4 y5 y6 y7
    go_wp2_with fail
    refine HEQ.out.mono ?_
    rintro e w9 ⟨rfl, hb9⟩
    have HB9 := Lib.hid (HB8.out.trans (hb9.mono HB8.out.size))
    clear hb9
    go_wp2_with fail
    go_ret
    exact ⟨rfl, HB9.out⟩
  · have ec1 : ((k : Int) == 0) = false := by rw [beq_eq_false_iff_ne]; omega
    have ec2 : ((k : Int) != 0) = true := by rw [bne_iff_ne]; omega
    clear hk0
    go_wp2_with fail
    go_ret
    exact ⟨rfl, HB7.out⟩
end Go.Proofs.YtaijdpckkobofaaDoor
