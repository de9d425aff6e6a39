/- More small facts on memory. No program in sight. -/
import Derived.Test.YtajdkcpcgfipbaaMem
namespace Go.Wm
open Go.RowKit

theorem Nx.none_ge {w : World} {r : Option Nat} (h : Nx w none r) : ∀ b, r = some b → w.heap.size ≤ b := by
  rintro b rfl
  rcases h with h | ⟨k, h, hk⟩
  · cases h
  · cases h; exact hk
theorem own_to {w : World} {base base' e size n : Nat} {v : Value} {xs : List Value} (h : w.ownsRow base e size v n xs) (hb : base' ≤ base) : w.ownsRow base' e size v n xs := by
  obtain ⟨h1, h2⟩ := h
  refine ⟨h1, ?_⟩
  rcases h2 with h2 | ⟨g, cap, cur, rfl, hg, rest⟩
  · exact .inl h2
  · exact .inr ⟨g, cap, cur, rfl, Nat.le_trans hb hg, rest⟩

theorem Rd.take {k : IntKind} {w : World} {A : Option Addr} {xs : List Int} (h : Rd k w A xs) (n : Nat) : Rd k w A (xs.take n) := by
  rcases h with rfl | ⟨b, off, rfl, hb, hc⟩
  · exact .inl (by simp)
  · refine .inr ⟨b, off, rfl, hb, fun j hj => ?_⟩
    have hj' : j < n ∧ j < xs.length := by simpa [Nat.lt_min] using hj
    rw [hc j hj'.2, List.getElem?_take, if_pos hj'.1]
theorem Rd.drop {k : IntKind} {w : World} {b off : Nat} {xs : List Int} (h : Rd k w (some ⟨b, off, none⟩) xs) (n : Nat) : Rd k w (some ⟨b, off + n, none⟩) (xs.drop n) := by
  rcases h with rfl | ⟨b', off', e, hb, hc⟩
  · exact .inl (by simp)
  · cases e
    refine .inr ⟨b, off + n, rfl, hb, fun j hj => ?_⟩
    have hj' : n + j < xs.length := by simp at hj; omega
    rw [show off + n + j = off + (n + j) from by omega, hc _ hj', List.getElem?_drop]
/-- min of two ints, kept whole -/
def mnI (a b : Int) : Int := if b < a then b else a
theorem min_int (ats : Array TypeId) (ty : TypeId) (k k' : IntKind) (x y : Int) : Builtin.min_ ats ty #[.int k x, .int k' y] = pure (.int k (mnI x y)) := by
  simp only [Builtin.min_, List.foldlM_cons, List.foldlM_nil, Builtin.min2, mnI]
  rfl
theorem mnI_nat (a b : Nat) : mnI (a : Int) (b : Int) = ((min a b : Nat) : Int) := by unfold mnI; split <;> omega
def mxI (a b : Int) : Int := if a < b then b else a
theorem max_int (ats : Array TypeId) (ty : TypeId) (k k' : IntKind) (x y : Int) : Builtin.max_ ats ty #[.int k x, .int k' y] = pure (.int k (mxI x y)) := by
  simp only [Builtin.max_, List.foldlM_cons, List.foldlM_nil, Builtin.max2, mxI, gt_iff_lt]
  rfl
theorem eqS {xs ys : List Int} (hx : Byt xs) (hy : Byt ys) : ((strOfNums xs).toList == (strOfNums ys).toList) = decide (xs = ys) := by
  rw [ByteArray.toList_eq, ByteArray.toList_eq]
  by_cases h : xs = ys
  · subst h; simp
  · have : (strOfNums xs).data.toList ≠ (strOfNums ys).data.toList := fun e => h (by
      have := congrArg (fun l : List UInt8 => l.map fun b => (b.toNat : Int)) e
      rw [← strI_of_nums hx, ← strI_of_nums hy]
      exact this)
    rw [beq_eq_false_iff_ne.2 this, decide_eq_false h]
theorem Rd.below_lt {k : IntKind} {n₀ b off : Nat} {w w' : World} {xs : List Int} (h : Rd k w (some ⟨b, off, none⟩) xs) (hB : Below n₀ w w') (hb : b < n₀) : Rd k w' (some ⟨b, off, none⟩) xs := by
  rcases h with h | ⟨b', off', e, hb', hc⟩
  · exact .inl h
  · cases e
    exact .inr ⟨b, off, rfl, Nat.lt_of_lt_of_le hb' hB.size, fun j hj => (hB.cell (p := ⟨b, off + j, none⟩) hb).trans (hc j hj)⟩
end Go.Wm
