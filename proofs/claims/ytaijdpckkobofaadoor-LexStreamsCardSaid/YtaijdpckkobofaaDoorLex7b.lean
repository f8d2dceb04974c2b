/- lex: the pieces of escape. -/
import Derived.Test.YtaijdpckkobofaaDoorLex7
namespace Go.Proofs.YtaijdpckkobofaaDoor
open Go.RowKit
set_option linter.unusedVariables false

theorem parseP_ok (t : ByteArray) (ht2 : t.size = 2) (n : Nat) (h : hexFrom 0 t.data.toList = some n) (w : World) :
    Calls Tryd.prog 147 #[.string t, .int .i64 16, .int .i64 8] w fun e w' => e = .returned (.tuple #[.int .u64 n, .nilIface]) ∧ Below w.heap.size w w' := by
  have hI : Calls Tryd.prog 165 #[.string t, .int .i64 16, .int .i64 8] w fun e w' => e = .returned (.tuple #[.int .u64 n, .nilIface]) ∧ w' = Lib.bytesWorld w 5 t := by
    have := parse16 t ht2 w
    rw [h] at this
    exact this
  clear h ht2
  go_enter Tryd.func147, Tryd.ntmps147
  go_wp2_with fail
  refine hI.mono ?_
  rintro e W1 ⟨rfl, hW⟩
  have HB : Hid (Below w.heap.size w W1) := Lib.hid (by rw [hW]; exact Lib.bytesWorld_below _ _ _)
  clear hW
  go_wp2_with fail
  go_ret2
  exact ⟨rfl, HB.out⟩

def BadRes (w : World) (e : Ending) (w' : World) : Prop := ∃ T N, e = .returned (.tuple #[.int .u64 0, .iface T (.pointer (some ⟨N, 0, none⟩))]) ∧ Below w.heap.size w w'

theorem parseP_bad (t : ByteArray) (ht2 : t.size = 2) (h : hexFrom 0 t.data.toList = none) (w : World) (hg : LexW w) :
    Calls Tryd.prog 147 #[.string t, .int .i64 16, .int .i64 8] w (BadRes w) := by
  have hI : Calls Tryd.prog 165 #[.string t, .int .i64 16, .int .i64 8] w fun e w' => e = .returned (.tuple #[.int .u64 0, .iface 217 (.int .i64 2)]) ∧ w' = Lib.bytesWorld w 5 t := by
    have := parse16 t ht2 w
    rw [h] at this
    exact this
  have hlim : t.size ≤ 281474976710656 := by omega
  clear h ht2
  go_enter Tryd.func147, Tryd.ntmps147
  go_wp2_with fail
  refine hI.mono ?_
  rintro e W1 ⟨rfl, hW⟩
  have hb : Below w.heap.size w W1 := by rw [hW]; exact Lib.bytesWorld_below _ _ _
  obtain ⟨te, pe, hS⟩ := (hg.below hb).errS
  have HS := Lib.hid hS
  have HB := Lib.hid hb
  clear hW hS hb hI
  go_wp2_with fail
  refine (Tryd.strconv_toError_syntax _ t 16 8 (.iface te pe) _ hlim HS.out (Or.inr ⟨_, _, rfl⟩)).mono ?_
  rintro e W2 ⟨N, rfl, h1, h2, h3⟩
  have H3 := Lib.hid h3
  clear h1 h2 h3
  go_wp2_with fail
  go_ret2
  exact ⟨_, N, rfl, HB.out.trans (H3.out.mono HB.out.size)⟩

/-- of a world nothing is asked (for a region that loads nothing) -/
def AnyW (w : World) : Prop := w = w

def escV (r : Option (Nat × Nat)) : Value := .tuple #[.int .u8 ((r.getD (0, 0)).1 : Nat), .int .i64 ((r.getD (0, 0)).2 : Nat)]

theorem escOf_short {t : ByteArray} (h : t.size < 2) : escOf t 0 = none := by unfold escOf; rw [if_neg (by omega)]
theorem escOf_same {t : ByteArray} (h : ¬ t.size < 2) (h1 : byteAt t 1 = 34 ∨ byteAt t 1 = 92) : escOf t 0 = some (byteAt t 1, 2) := by unfold escOf; rw [if_pos (by omega), if_pos (by simpa using h1)]
theorem escOf_n {t : ByteArray} (h : ¬ t.size < 2) (h1 : byteAt t 1 = 110) : escOf t 0 = some (10, 2) := by
  unfold escOf
  simp only [Nat.zero_add]
  rw [if_pos (by omega), if_neg (by omega), if_pos h1]
theorem escOf_x {t : ByteArray} (h : ¬ t.size < 4) (h1 : byteAt t 1 = 120) : escOf t 0 = ((hexOf (byteAt t 2)).bind fun a => (hexOf (byteAt t 3)).map fun b => 16 * a + b).map fun n => (n, 4) := by
  unfold escOf
  simp only [Nat.zero_add]
  rw [if_pos (by omega), if_neg (by omega), if_neg (by omega), if_pos ⟨h1, by omega⟩]
  cases hexOf (byteAt t 2) <;> cases hexOf (byteAt t 3) <;> rfl
theorem escOf_no {t : ByteArray} (h2 : byteAt t 1 ≠ 34) (h3 : byteAt t 1 ≠ 92) (h4 : byteAt t 1 ≠ 110) (h5 : byteAt t 1 ≠ 120 ∨ t.size < 4) : escOf t 0 = none := by
  unfold escOf
  simp only [Nat.zero_add]
  by_cases h : 1 < t.size
  · rw [if_pos h, if_neg (by omega), if_neg (by omega), if_neg (by omega)]
  · rw [if_neg h]
theorem toList_ne {a b : ByteArray} (h : ¬ a.data.toList = b.data.toList) : (a.toList == b.toList) = false := by
  rw [beq_eq_false_iff_ne, Lib.toList_data, Lib.toList_data]; exact h
theorem drawn_below {w W : World} (h : ∃ n, W = w.drewN n) : Below w.heap.size w W := by
  obtain ⟨n, rfl⟩ := h; exact below_drewN (Below.refl _ _) n

theorem extract24 {t : ByteArray} (h : ¬ t.size < 4) : (t.extract 2 4).size = 2 ∧ ∃ u v : UInt8, (t.extract 2 4).data.toList = [u, v] ∧ byteAt t 2 = u.toNat ∧ byteAt t 3 = v.toNat := by
  have h2 : (t.extract 2 4).size = 2 := by rw [extract_size (by omega)]
  obtain ⟨u, v, e⟩ := list_two h2
  refine ⟨h2, u, v, e, ?_, ?_⟩
  · have := byteAt_extract (s := t) (i := 2) (j := 4) (k := 0) (by omega)
    rw [← this]; unfold byteAt; rw [e]; rfl
  · have := byteAt_extract (s := t) (i := 2) (j := 4) (k := 1) (by omega)
    rw [← this]; unfold byteAt; rw [e]; rfl

theorem hexFrom_lt {t : ByteArray} (h : t.size = 2) {n : Nat} (hn : hexFrom 0 t.data.toList = some n) : n < 256 := by
  obtain ⟨u, v, e⟩ := list_two h
  rw [e, hexFrom_two] at hn
  obtain ⟨a, ha, hn⟩ := Option.bind_eq_some_iff.1 hn
  obtain ⟨b, hb, rfl⟩ := Option.map_eq_some_iff.1 hn
  have h16 : ∀ {c a : Nat}, hexAny c = some a → a < 16 := by
    intro c a h
    unfold hexAny at h
    split at h
    · injection h; omega
    · split at h
      · injection h; omega
      · cases h
  have := h16 ha
  have := h16 hb
  omega
end Go.Proofs.YtaijdpckkobofaaDoor
