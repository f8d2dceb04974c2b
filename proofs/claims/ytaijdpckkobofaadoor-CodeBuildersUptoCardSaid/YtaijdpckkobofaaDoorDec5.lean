/- A reader with a flag: msgs. -/
import Derived.Test.YtaijdpckkobofaaDoorDec4
namespace Go.Proofs.YtaijdpckkobofaaDoor
open Go.RowKit
set_option linter.unusedVariables false

theorem mown_other {w w9 : World} {B B' : Nat} {e e' : TypeId} {size size' : Nat} {v v' : Value} {n n' : Nat} {xs xs' : List Value} {o : Obj} (h : w.ownsRow B e size v n xs) (h' : w.ownsRow B' e' size' v' n' xs') (hne : e ≠ e') (hg : (w.alloc o).grownBy w9 v'.ownBlock) : w9.ownsRow B e size v n xs := by
  refine mown_block h fun g hgb => ?_
  obtain ⟨cs, fz, hh⟩ := Lib.ownsRow_kind h g hgb
  have hlt := (Array.getElem?_eq_some_iff.1 hh).1
  refine (hg.block g (by rw [World.size_alloc]; omega) ?_).trans (((Below.refl w.heap.size w).alloc (Nat.le_refl _) o).block g hlt)
  intro he
  obtain ⟨cs', fz', hh'⟩ := Lib.ownsRow_kind h' g he.symm
  rw [hh] at hh'
  injection hh' with hh'
  injection hh' with _ hh' _
  exact hne hh'

/-- rows that share no block -/
def Aparts (vs : List Value) : Prop := vs.Pairwise fun a b => a.ownBlock = none ∨ a.ownBlock ≠ b.ownBlock
/-- each value a row of its own -/
structure OwnR {α : Type} (e : TypeId) (size : Nat) (ln : α → Nat) (cs : α → List Value) (B : Nat) (w : World) (vs : List Value) (ms : List α) : Prop where
  len : vs.length = ms.length
  own : ∀ (k : Nat) (v : Value) (m : α), vs[k]? = some v → ms[k]? = some m → w.ownsRow B e size v (ln m) (cs m)
  apart : Aparts vs
section
variable {α : Type} {e : TypeId} {size : Nat} {ln : α → Nat} {cs : α → List Value}
theorem OwnR.nil (B : Nat) (w : World) : OwnR e size ln cs B w [] [] := ⟨rfl, fun k v m h => by simp at h, List.Pairwise.nil⟩
theorem OwnR.map {B : Nat} {w w' : World} {vs : List Value} {ms : List α} (h : OwnR e size ln cs B w vs ms) (k : ∀ (v : Value) (m : α), w.ownsRow B e size v (ln m) (cs m) → w'.ownsRow B e size v (ln m) (cs m)) : OwnR e size ln cs B w' vs ms :=
  ⟨h.len, fun i v m hv hm => k v m (h.own i v m hv hm), h.apart⟩
theorem OwnR.lt {B : Nat} {w : World} {vs : List Value} {ms : List α} (h : OwnR e size ln cs B w vs ms) : ∀ v ∈ vs, ∀ g, v.ownBlock = some g → B ≤ g ∧ g < w.heap.size := by
  intro v hv g hg
  obtain ⟨k, hk⟩ := List.getElem?_of_mem hv
  obtain ⟨m, hm⟩ : ∃ m, ms[k]? = some m := ⟨_, List.getElem?_eq_getElem (by have := (List.getElem?_eq_some_iff.1 hk).1; rw [← h.len]; exact this)⟩
  exact (h.own k v m hk hm).lt g hg
theorem get_snoc {α : Type} {l : List α} {x y : α} {k : Nat} (h : (l ++ [x])[k]? = some y) : l[k]? = some y ∨ (k = l.length ∧ x = y) := by
  by_cases hk : k < l.length
  · rw [List.getElem?_append_left hk] at h; exact Or.inl h
  · rw [List.getElem?_append_right (by omega)] at h
    by_cases h0 : k - l.length = 0
    · rw [h0] at h
      exact Or.inr ⟨by omega, by simpa using h⟩
    · have : k - l.length = (k - l.length - 1) + 1 := by omega
      rw [this] at h
      simp at h
/-- one row more, laid later -/
theorem OwnR.snoc {B B' : Nat} {w w' : World} {vs : List Value} {ms : List α} {v : Value} {m : α} (h : OwnR e size ln cs B w vs ms) (k : ∀ (v : Value) (m : α), w.ownsRow B e size v (ln m) (cs m) → w'.ownsRow B e size v (ln m) (cs m)) (hv : w'.ownsRow B' e size v (ln m) (cs m)) (hB : B ≤ B') (hw : w.heap.size ≤ B') : OwnR e size ln cs B w' (vs ++ [v]) (ms ++ [m]) := by
  refine ⟨by simp [h.len], fun i u x hu hx => ?_, ?_⟩
  · rcases get_snoc hu with hu | ⟨rfl, rfl⟩
    · rcases get_snoc hx with hx | ⟨rfl, rfl⟩
      · exact k _ _ (h.own i u x hu hx)
      · have := (List.getElem?_eq_some_iff.1 hu).1
        have := h.len
        omega
    · rcases get_snoc hx with hx | ⟨_, rfl⟩
      · have := (List.getElem?_eq_some_iff.1 hx).1
        have := h.len
        omega
      · exact mown_base hB hv
  · refine List.pairwise_append.2 ⟨h.apart, List.pairwise_singleton _ _, fun a ha b hb => ?_⟩
    simp only [List.mem_singleton] at hb
    subst hb
    cases hab : a.ownBlock with
    | none => exact Or.inl rfl
    | some g =>
      right
      intro e
      have h1 := (h.lt a ha g hab).2
      have h2 := (hv.lt g e.symm).1
      omega
end
abbrev OwnMs := OwnR (α := List UInt8) 5 1 List.length Lib.byteCells
theorem own_slice {w : World} {B : Nat} {e : TypeId} {size : Nat} {v : Value} {n : Nat} {xs : List Value} (h : w.ownsRow B e size v n xs) : ∃ a m c, v = .slice a m c := by
  rcases h.2 with ⟨rfl, _⟩ | ⟨g, cap, cur, rfl, _⟩
  · exact ⟨_, _, _, rfl⟩
  · exact ⟨_, _, _, rfl⟩
theorem info_slu8 : (Tryd.prog.info? 35).map (fun i => (i.zero, i.size, i.bytes)) = some (some (.slice none 0 0), 1, 24) := by kernel_rfl
theorem sl_one {w : World} {B : Nat} {e : TypeId} {size : Nat} {v : Value} {n : Nat} {xs : List Value} (h : w.ownsRow B e size v n xs) : ∀ u ∈ [v], u.oneCell' = true := fun u hu => by
  simp at hu
  subst hu
  rcases h.2 with ⟨rfl, _⟩ | ⟨g, cap, cur, rfl, _⟩
  · rfl
  · rfl

def MsgsOut (b c : Nat) (da : Option Addr) (cap : Nat) (bs : List UInt8) (n p : Nat) (en : Bool) (w : World) (e : Ending) (w' : World) : Prop :=
  ∃ (v : Value) (vs : List Value) (acc : List (List UInt8)) (q : Nat) (en' : Bool), e = .returned v ∧ w'.ownsRow w.heap.size 35 1 v vs.length vs ∧ OwnMs w.heap.size w' vs acc ∧ RdS b c da cap bs q en' w' ∧ Kp b c w w' ∧ Step en (moreR msgR n [] (bs.drop p)) en' acc (bs.drop q)

set_option maxRecDepth 100000 in
set_option maxHeartbeats 1000000 in
theorem rmsgs (b c : Nat) (da : Option Addr) (cap : Nat) (bs : List UInt8) (n p : Nat) (en : Bool) (w : World) (h : RdS b c da cap bs p en w) (hn : n ≤ 65535) :
    Calls Tryd.prog 49 #[.pointer (some ⟨b, 0, none⟩), .int .i64 n] w (MsgsOut b c da cap bs n p en w) := by
  obtain ⟨i0, hi, hz0, hz1, hz2⟩ := info_parts info_slu8
  have HR0 := Lib.hid h
  have hcw : c ≤ w.heap.size := by have := h.cl'; omega
  have hlt := h.lt
  clear h
  go_enter Tryd.func49, Tryd.ntmps49
  go_wp2_with fail
  go_loopw [5, 6] (fun v ix wr => ∃ (k : Nat) (vs : List Value) (acc : List (List UInt8)) (q : Nat) (en' : Bool), k ≤ n ∧ ix = .int .i64 k ∧ acc.length = k ∧ wr.ownsRow w.heap.size 35 1 v vs.length vs ∧ OwnMs w.heap.size wr vs acc ∧ RdS b c da cap bs q en' wr ∧ Kp b c w wr ∧ LoopS msgR n (bs.drop p) en k acc (bs.drop q) en') (fun _ ix _ => n - (intOf ix).toNat)
  case atStart => exact ⟨0, [], [], p, en, by omega, rfl, rfl, World.ownsRow_nil _ _ _ _, OwnR.nil _ _, HR0.out, Kp.refl w hcw hlt, LoopS.start⟩
  case round =>
    obtain ⟨wo, hwo⟩ : ∃ wo : World, wr = wo := ⟨_, rfl⟩
    obtain ⟨k, vs, acc, q, en', hk, rfl, hac, hown, hms, hr, hkp, hls⟩ := hrel
    rw [hwo] at hown hms hr hkp ⊢
    clear hwo
    have b0 : wo.cell? ⟨b, 0, none⟩ = some (.pointer (some ⟨c, 0, none⟩)) := (Lib.cell_of_heap hr.hb _).trans rfl
    have b1 : wo.cell? ⟨b, 1, none⟩ = some (.bool en') := (Lib.cell_of_heap hr.hb _).trans rfl
    have HO := Lib.hid hown
    have HM := Lib.hid hms
    have HR := Lib.hid hr
    have HK := Lib.hid hkp
    have HL := Lib.hid hls
    have HAC := Lib.hid hac
    clear hown hms hr hkp hls hac
    by_cases hlt1 : k < n
    · cases en'
      · have HN1 := Lib.hid (rnum b c da cap bs 2 q 2 false wo HR.out (by omega) (by omega) rfl)
        go_wp2_with fail
        refine HN1.out.mono ?_
        rintro e w1 ⟨x1, q1, e1, rfl, hx1, hr1, hk1, hs1⟩
        have HN2 := Lib.hid (rtake b c da cap bs x1 q1 e1 w1 hr1)
        have hx1' : x1 < 65536 := hx1
        have HO1 := Lib.hid (hk1.own HR.out HO.out (by decide) (by decide))
        have HM1 := Lib.hid (HM.out.map fun v m ho => hk1.own HR.out ho (by decide) (by decide))
        have HR1 := Lib.hid hr1
        have HK1 := Lib.hid (HK.out.trans hk1)
        have HS1 := Lib.hid hs1
        clear hx1 hr1 hk1 hs1 HN1
        go_wp2_with fail
        refine HN2.out.mono ?_
        rintro e w2 ⟨v2, x2, q2, e2, rfl, hv2, hr2, hk2, hs2⟩
        have HO2 := Lib.hid (hk2.own HR1.out HO1.out (by decide) (by decide))
        have HM2 := Lib.hid (HM1.out.snoc (fun v m ho => hk2.own HR1.out ho (by decide) (by decide)) hv2 HK1.out.below.size (Nat.le_refl _))
        have HR2 := Lib.hid hr2
        have HK2 := Lib.hid (HK1.out.trans hk2)
        have HS2 := Lib.hid hs2
        have HV1 := Lib.hid (sl_one hv2)
        have hkb : vs.length ≤ 65535 := by have := HAC.out; have := HM.out.len; omega
        obtain ⟨a2, n2, c2, rfl⟩ := own_slice hv2
        clear hv2 hr2 hk2 hs2 HN2
        go_wp2_with (first | (at_builtin; (refine wpList_append_own _ rfl (.tmp 19) (.tmp 24) 24 rfl w.heap.size 35 i0 (.slice none 0 0) 1 24 Tryd.underlying24 hi hz0 hz1 hz2 rfl (by decide) _ vs.length _ rfl (HO2.out.alloc _) ⟨w2.heap.size, 0, none⟩ 1 1 [.slice a2 n2 c2] rfl rfl (mcells_new _ [_] _) HV1.out (by unfold maxLen; omega) (by omega) (by rw [World.size_alloc]; have := HK2.out.below.size; omega) ?_); intro v' w9 hown9 hgrow _; have HG := Lib.hid hgrow; clear hgrow))
        obtain ⟨hr9, hk9⟩ := RdS.app HR0.out HR2.out HK2.out HO2.out (Nat.le_refl _) (by decide) (by decide) HG.out
        have HM9 := HM2.out.map fun v m ho => mown_other ho HO2.out (by decide) HG.out
        go_roundw
        case rel => exact ⟨k + 1, vs ++ [.slice a2 n2 c2], acc ++ [x2], q2, e2, by omega, by go_num, by rw [List.length_append, HAC.out]; rfl, mown_cast hown9 (by simp) rfl, HM9, hr9, hk9, HL.out.step hlt1 (Step.msg HS1.out HS2.out)⟩
        case measure => simp [intOf]; omega
      · go_wp2_with fail
        go_ret
        exact ⟨_, vs, acc, q, true, rfl, HO.out, HM.out, HR.out, HK.out, HL.out.stop (Or.inr rfl)⟩
    · go_wp2_with fail
      go_ret
      exact ⟨_, vs, acc, q, en', rfl, HO.out, HM.out, HR.out, HK.out, HL.out.stop (Or.inl (by omega))⟩
end Go.Proofs.YtaijdpckkobofaaDoor
