/- Plain numbers and lists: the records at the beginning of some bytes. -/
import Derived.Test.YtajdkcpcgfipbaaPureC
namespace Go.Wm
open Go.RowKit

theorem varN_pos (n : Nat) : 0 < (varN n).length := by
  rw [varN]; split <;> simp
theorem frameB_pos (n : Int) (b : List Int) : 0 < (frameB n b).length := by
  unfold frameB rawW
  simp only [List.length_append]
  have := varN_pos (coreB n b).length
  omega
/-- the records from number i on, each with the number of bytes up to its end -/
def scanP : Nat → Nat → Nat → List Int → List (List Int × Nat)
  | 0, _, _, _ => []
  | f + 1, i, a, b => if b = [] then [] else
    if b.take (frameB i (recordB b)).length = frameB i (recordB b) then
      (recordB b, a + (frameB i (recordB b)).length) :: scanP f (i + 1) (a + (frameB i (recordB b)).length) (b.drop (frameB i (recordB b)).length)
    else []
theorem scanP_fuel : ∀ (f f' i a : Nat) (b : List Int), b.length ≤ f → b.length ≤ f' → scanP f i a b = scanP f' i a b
  | 0, f', i, a, b, h, _ => by
    have : b = [] := List.eq_nil_of_length_eq_zero (by omega)
    subst this
    cases f' <;> simp [scanP]
  | f + 1, 0, i, a, b, _, h => by
    have : b = [] := List.eq_nil_of_length_eq_zero (by omega)
    subst this
    simp [scanP]
  | f + 1, f' + 1, i, a, b, h, h' => by
    rw [scanP, scanP]
    split
    · rfl
    · split
      · have hp := frameB_pos i (recordB b)
        rw [scanP_fuel f f' _ _ _ (by simp; omega) (by simp; omega)]
      · rfl
def scanB (b : List Int) : List (List Int × Nat) := scanP b.length 0 0 b
theorem scanP_nil (f i a : Nat) : scanP f i a [] = [] := by cases f <;> simp [scanP]
theorem scanP_hit {f i a : Nat} {b : List Int} (hf : b.length ≤ f) (hb : b ≠ []) (h : b.take (frameB i (recordB b)).length = frameB i (recordB b)) :
    scanP f i a b = (recordB b, a + (frameB i (recordB b)).length) :: scanP f (i + 1) (a + (frameB i (recordB b)).length) (b.drop (frameB i (recordB b)).length) := by
  have hp := frameB_pos i (recordB b)
  cases f with
  | zero => exact absurd (List.eq_nil_of_length_eq_zero (by omega)) hb
  | succ f =>
    rw [scanP, if_neg hb, if_pos h, scanP_fuel f (f + 1) _ _ _ (by simp; omega) (by simp; omega)]
theorem scanP_miss {f i a : Nat} {b : List Int} (h : ¬ b.take (frameB i (recordB b)).length = frameB i (recordB b)) : scanP f i a b = [] := by
  cases f with
  | zero => rfl
  | succ f =>
    rw [scanP, if_neg h]; split <;> rfl
end Go.Wm
