/- MORE GENERAL LEMMAS: an owned row over a later world, an append's side conditions. -/
import Derived.Test.YtaijdpckkobofaaDoorKit
namespace Go.Proofs.YtaijdpckkobofaaDoor
open Go.RowKit

theorem ownsRow_old {w w' : World} {B : Nat} {e : TypeId} {size : Nat} {v : Value} {n : Nat} {xs : List Value} (h : w.ownsRow B e size v n xs) (hb : Below w.heap.size w w') : w'.ownsRow B e size v n xs := by
  obtain ⟨h1, h2⟩ := h
  refine ⟨h1, ?_⟩
  rcases h2 with h2 | ⟨g, cap, cur, hv, hg, hh, r⟩
  · exact .inl h2
  · refine .inr ⟨g, cap, cur, hv, hg, ?_, r⟩
    have : g < w.heap.size := by
      rcases Nat.lt_or_ge g w.heap.size with h' | h'
      · exact h'
      · rw [Array.getElem?_eq_none h'] at hh; cases hh
    rw [hb.block g this]; exact hh
theorem one_cell (v : Value) (h : v.oneCell' = true) : ∀ u ∈ [v], u.oneCell' = true := fun u hu => by simp at hu; subst hu; exact h
theorem cell_one_at (w : World) (v : Value) (t : TypeId) (n : Nat) (h : w.heap.size = n) : ∀ j u, [v][j]? = some u → (w.alloc (.cells #[v] t)).cell? ((⟨n, 0, none⟩ : Addr).add j) = some u := by
  subst h
  intro j u hj
  have := cell_new w #[v] t 0 0 j
  rw [Nat.zero_add] at this
  refine Eq.trans this ?_
  simpa using hj
/-- what an append to a row of the call's own leaves of what was there -/
theorem below_app {B : Nat} {w0 w w1 : World} {e : TypeId} {size : Nat} {v : Value} {n : Nat} {xs : List Value} (h : Below B w0 w) (hB : B ≤ w.heap.size) (hown : w.ownsRow B e size v n xs) {o : Obj} (hg : (w.alloc o).grownBy w1 v.ownBlock) : Below B w0 w1 :=
  (h.alloc hB o).grown hg (by rw [World.size_alloc]; omega) (fun k hk => (hown.lt k hk).1)
end Go.Proofs.YtaijdpckkobofaaDoor
