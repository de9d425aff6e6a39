/- ClientCallers: both sides in memory. -/
import Derived.Test.YtajdkcpcgfipbaaCalG
namespace Go.Proofs.Ytajdkcpcgfipbaa
open Go.RowKit Go.Wm

/-- the client's side at gc, the reference's at gm, all behind w0 -/
def Pr2 (w0 W : World) (gc gm : Nat) (st st2 : Cal) : Prop :=
  ∃ q q2, CalAt W gc q st ∧ RCalAt W gm q2 st2 ∧ Below w0.heap.size w0 W ∧ w0.heap.size ≤ gc ∧ w0.heap.size ≤ gm ∧ (∀ k, q = some k → w0.heap.size ≤ k) ∧ (∀ k, q2 = some k → w0.heap.size ≤ k)
theorem Pr2.below {w0 W W' : World} {gc gm : Nat} {st st2 : Cal} (h : Pr2 w0 W gc gm st st2) (k : Below W.heap.size W W') : Pr2 w0 W' gc gm st st2 := by
  obtain ⟨q, q2, h1, h2, h3, h4, h5, h6, h7⟩ := h
  exact ⟨q, q2, h1.below k, h2.below k, h3.trans (k.mono h3.size), h4, h5, h6, h7⟩
theorem blk_ty {w : World} {i j t u : Nat} {C D : Array Value} {f f' : Nat × Nat} (h : w.heap[i]? = some (.cells C t f)) (k : w.heap[j]? = some (.cells D u f')) (hne : t ≠ u) : i ≠ j := by
  rintro rfl
  rw [h] at k
  cases k
  exact hne rfl
theorem CalAt.blks {w : World} {g : Nat} {q : Option Nat} {s : Cal} (h : CalAt w g q s) : (∃ C, w.heap[g]? = some (.cells C 114 (0, 0))) ∧ ∀ k, q = some k → ∃ C, w.heap[k]? = some (.cells C 32 (0, 0)) := by
  obtain ⟨A, c, cs, h1, h2, h3, rfl⟩ := h
  refine ⟨⟨_, h1⟩, fun k e => ?_⟩
  cases A with
  | none => cases e
  | some a => cases e; exact (h2.blk a rfl).2.2
theorem RCalAt.blks {w : World} {g : Nat} {q : Option Nat} {s : Cal} (h : RCalAt w g q s) : (∃ C, w.heap[g]? = some (.cells C 83 (0, 0))) ∧ ∀ k, q = some k → ∃ C, w.heap[k]? = some (.cells C 37 (0, 0)) := by
  obtain ⟨A, c, cs, h1, h2, h3, rfl⟩ := h
  refine ⟨⟨_, h1⟩, fun k e => ?_⟩
  cases A with
  | none => cases e
  | some a => cases e; exact (h2.blk a rfl).2.2
theorem Pr2.cal {w0 W W' : World} {gc gm : Nat} {st st' st2 : Cal} (h : Pr2 w0 W gc gm st st2) (hc : ∀ q, CalAt W gc q st → CalTo W W' gc q st') : Pr2 w0 W' gc gm st' st2 := by
  obtain ⟨q, q2, h1, h2, h3, h4, h5, h6, h7⟩ := h
  obtain ⟨q', k1, k2, k3⟩ := hc q h1
  obtain ⟨⟨C1, b1⟩, b2⟩ := h1.blks
  obtain ⟨⟨D1, d1⟩, d2⟩ := h2.blks
  refine ⟨q', q2, k1, h2.kp k2 ?_ ?_ ?_, h3.trans (k2.below h3.size ?_), h4, h5, ?_, h7⟩
  · rintro (e | e)
    · exact blk_ty d1 b1 (by decide) e
    · obtain ⟨C2, b2⟩ := b2 _ e; exact blk_ty d1 b2 (by decide) rfl
  · rintro j ej (e | e)
    · obtain ⟨D2, d2⟩ := d2 _ ej; exact blk_ty d2 b1 (by decide) e
    · obtain ⟨D2, d2⟩ := d2 _ ej; obtain ⟨C2, b2⟩ := b2 _ e; exact blk_ty d2 b2 (by decide) rfl
  · rintro j _ (e | e)
    · subst e; exact nob_cells b1 (by decide)
    · obtain ⟨C2, b2⟩ := b2 _ e; exact nob_cells b2 (by decide)
  · rintro j (e | e)
    · omega
    · exact h6 j e
  · intro j e
    rcases k3 with k3 | ⟨i, k3, k4⟩
    · exact h6 j (by rw [← k3]; exact e)
    · rw [k3] at e; cases e; exact Nat.le_trans h3.size k4
theorem Pr2.ref {w0 W W' : World} {gc gm : Nat} {st st2 st' : Cal} (h : Pr2 w0 W gc gm st st2) (hc : ∀ q, RCalAt W gm q st2 → RCalGo W W' gm q st') : Pr2 w0 W' gc gm st st' := by
  obtain ⟨q, q2, h1, h2, h3, h4, h5, h6, h7⟩ := h
  obtain ⟨q', k1, k2, k3⟩ := hc q2 h2
  obtain ⟨⟨C1, b1⟩, b2⟩ := h1.blks
  obtain ⟨⟨D1, d1⟩, d2⟩ := h2.blks
  refine ⟨q, q', h1.kp k2 ?_ ?_ ?_, k1, h3.trans (k2.below h3.size ?_), h4, h5, h6, ?_⟩
  · rintro (e | e)
    · exact blk_ty b1 d1 (by decide) e
    · obtain ⟨D2, d2⟩ := d2 _ e; exact blk_ty b1 d2 (by decide) rfl
  · rintro j ej (e | e)
    · obtain ⟨C2, b2⟩ := b2 _ ej; exact blk_ty b2 d1 (by decide) e
    · obtain ⟨C2, b2⟩ := b2 _ ej; obtain ⟨D2, d2⟩ := d2 _ e; exact blk_ty b2 d2 (by decide) rfl
  · rintro j _ (e | e)
    · subst e; exact nob_cells d1 (by decide)
    · obtain ⟨D2, d2⟩ := d2 _ e; exact nob_cells d2 (by decide)
  · rintro j (e | e)
    · omega
    · exact h7 j e
  · intro j e
    rcases k3 with k3 | k3
    · exact h7 j (by rw [← k3]; exact e)
    · exact Nat.le_trans h3.size (k3 j e)
end Go.Proofs.Ytajdkcpcgfipbaa
