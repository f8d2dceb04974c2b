/- A bytes.Buffer THAT IS THE WHOLE OF A writer: the shelf's contracts for Write, WriteByte, WriteString, and Bytes walked anew at this struct. -/
import Derived.Test.YtaijdpckkobofaaDoorKit
import Derived.Test.YtaijdpckkobofaaDoorShelf
namespace Go.Proofs.YtaijdpckkobofaaDoor
open Go.RowKit
set_option linter.unusedVariables false

def IsBuf (B b : Nat) (bs : List Value) (w : World) : Prop := LibA.IsBuffer 123 (fun _ => none) 5 B b 0 bs w

theorem IsBuf.old {B b : Nat} {bs : List Value} {w w' : World} (h : IsBuf B b bs w) (hb : Below w.heap.size w w') : IsBuf B b bs w' := LibA.IsBuffer.old h hb
theorem IsBuf.alloc {B b : Nat} {bs : List Value} {w : World} (h : IsBuf B b bs w) (o : Obj) : IsBuf B b bs (w.alloc o) := LibA.IsBuffer.alloc h o
theorem IsBuf.drewN {B b : Nat} {bs : List Value} {w : World} (h : IsBuf B b bs w) (n : Nat) : IsBuf B b bs (w.drewN n) := h
theorem IsBuf.drew {B b : Nat} {bs : List Value} {w : World} (h : IsBuf B b bs w) : IsBuf B b bs w.drew := h
theorem IsBuf.lt {B b : Nat} {bs : List Value} {w : World} (h : IsBuf B b bs w) : b < w.heap.size := LibA.IsBuffer.lt h
theorem IsBuf.le {B b : Nat} {bs : List Value} {w : World} (h : IsBuf B b bs w) : B ≤ b := h.1

theorem fresh_buf (w : World) : IsBuf w.heap.size w.heap.size [] (w.alloc (.cells #[.slice none 0 0, .int .i64 0, .int .i8 0] 123)) :=
  LibA.zero_isBuffer (Nat.le_refl _) (LibA.three_whole (heap_new _ _))

theorem bWrite (B b : Nat) (bs cs : List Value) (a : Addr) (n c : Nat) (w : World) (h : IsBuf B b bs w) (hBw : B ≤ w.heap.size) (h1 : bytesOk bs)
    (hn : cs.length = n) (hab : a.block ≠ b) (hsrc : ∀ j v, cs[j]? = some v → w.cell? (a.add j) = some v) (h1c : bytesOk cs) (hlim : bs.length + n ≤ 140737488355328) :
    Calls Tryd.prog 60 #[.pointer (some ⟨b, 0, none⟩), .slice (some a) n c] w fun e w' => e = .returned (.tuple #[.int .i64 n, .nilIface]) ∧ IsBuf B b (bs ++ cs) w' ∧ Wr B b w w' :=
  (Tryd.Buffer_Write_at 123 (fun _ => none) B b 0 bs cs a n c w h hBw h1.one hn hab hsrc h1c.one hlim).mono fun _ _ ⟨he, hb, h2, h3⟩ => ⟨he, hb, h2, h3⟩

theorem bWriteByte (B b : Nat) (bs : List Value) (c : Int) (w : World) (h : IsBuf B b bs w) (hBw : B ≤ w.heap.size) (h1 : bytesOk bs) (hlim : bs.length + 1 ≤ 140737488355328) :
    Calls Tryd.prog 59 #[.pointer (some ⟨b, 0, none⟩), .int .u8 c] w fun e w' => e = .returned .nilIface ∧ IsBuf B b (bs ++ [.int .u8 c]) w' ∧ Wr B b w w' :=
  (Tryd.Buffer_WriteByte_at 123 (fun _ => none) B b 0 bs c w h hBw h1.one hlim).mono fun _ _ ⟨he, hb, h2, h3⟩ => ⟨he, hb, h2, h3⟩

theorem bWriteString (B b : Nat) (bs : List Value) (s : ByteArray) (w : World) (h : IsBuf B b bs w) (hBw : B ≤ w.heap.size) (h1 : bytesOk bs) (hlim : bs.length + s.size ≤ 140737488355328) :
    Calls Tryd.prog 57 #[.pointer (some ⟨b, 0, none⟩), .string s] w fun e w' => e = .returned (.tuple #[.int .i64 s.size, .nilIface]) ∧ IsBuf B b (bs ++ Lib.byteCells s.data.toList) w' ∧ Wr B b w w' :=
  (Tryd.Buffer_WriteString_at 123 (fun _ => none) B b 0 bs s w h hBw h1.one hlim).mono fun _ _ ⟨he, hb, h2, h3⟩ => ⟨he, hb, h2, h3⟩

theorem bBytes (B b : Nat) (bs : List Value) (w : World) (h : IsBuf B b bs w) :
    Calls Tryd.prog 61 #[.pointer (some ⟨b, 0, none⟩)] w fun e w' => ∃ v, e = .returned v ∧ w'.ownsRow B 5 1 v bs.length bs ∧ ∃ n, w' = w.drewN n := by
  obtain ⟨hB, lr, hc⟩ := LibA.IsBuffer.cases h
  rcases hc with ⟨rfl, hbk⟩ | ⟨g, cap, cur, hbk, hBg, hg, hnc, hcm, hcs, htk, hgb⟩
  · have c0 := hbk.c0
    have c1 : w.cell? ⟨b, 1, none⟩ = some (.int .i64 0) := hbk.c1
    clear h
    go_enter Tryd.func61, Tryd.ntmps61
    go_wp2
    go_region
    all_goals (go_wp2; go_ret; exact ⟨_, rfl, World.ownsRow_nil _ _ _ _, 1, rfl⟩)
  · have c0 := hbk.c0
    have c1 : w.cell? ⟨b, 1, none⟩ = some (.int .i64 0) := hbk.c1
    have hcm' := hcm
    unfold maxLen at hcm'
    clear h
    go_enter Tryd.func61, Tryd.ntmps61
    go_wp2
    go_region
    all_goals (go_wp2; go_ret; exact ⟨_, rfl, ⟨by simp, .inr ⟨g, cap, cur, rfl, hBg, hg, hnc, hcm, by simpa using hcs, by simpa using htk⟩⟩, 1, rfl⟩)
end Go.Proofs.YtaijdpckkobofaaDoor
