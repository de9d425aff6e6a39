/- Plain numbers and lists: the reader of package wire. -/
import Derived.Test.YtajdkcpcgfipbaaPure
namespace Go.Wm
open Go.RowKit

/-! ### the reader -/
/-- Reader.Uint behind k bytes of the number, of value acc: the number, what is left, the error -/
def rU (k acc : Nat) : List Int → Nat × List Int × Int
  | [] => (0, [], 3)
  | x :: r => if (k = 9 ∧ 1 < x) ∨ (0 < k ∧ x = 0) then (0, r, 2)
    else if x < 128 then (acc + x.toNat * 128 ^ k, r, 0)
    else rU (k + 1) (acc + (x.toNat % 128) * 128 ^ k) r
theorem andNot128 (x : Int) (h0 : 0 ≤ x) (h1 : x < 256) : bits .andNot .u8 x 128 = ((x.toNat % 128 : Nat) : Int) := by
  have d : ∀ a, a < 256 → a &&& 127 = a % 128 := by decide +kernel
  rw [u8_andNot x 128 h0 h1 (by omega) (by omega)]
  rw [show 255 - (128 : Int).toNat = 127 from rfl, d x.toNat (by omega)]
theorem uint_step (acc y k : Nat) (hk : k ≤ 9) (hacc : acc < 128 ^ k) (hy : y < 128) (h9 : k = 9 → y ≤ 1) :
    bits .or .u64 (acc : Int) (IntKind.u64.wrap (IntKind.u64.wrap (y : Int) * 2 ^ (7 * k))) = ((acc + y * 128 ^ k : Nat) : Int) := by
  have hp : 128 ^ k = 2 ^ (7 * k) := by rw [Nat.pow_mul]
  have hw : IntKind.u64.wrap (y : Int) = y := by rw [IntKind.wrap_u64]; omega
  have hb : y * 2 ^ (7 * k) < 18446744073709551616 := by
    by_cases e : k = 9
    · subst e
      have := h9 rfl
      calc y * 2 ^ 63 ≤ 1 * 2 ^ 63 := Nat.mul_le_mul_right _ this
        _ < _ := by decide
    · calc y * 2 ^ (7 * k) ≤ 127 * 2 ^ 56 := Nat.mul_le_mul (by omega) (Nat.pow_le_pow_right (by omega) (by omega))
        _ < _ := by decide
  have ha : acc < 2 ^ (7 * k) := hp ▸ hacc
  have ha2 : acc < 18446744073709551616 := Nat.lt_of_lt_of_le ha (Nat.le_trans (Nat.pow_le_pow_right (by omega) (by omega : 7 * k ≤ 63)) (by decide))
  have e1 : (y : Int) * 2 ^ (7 * k) = ((y * 2 ^ (7 * k) : Nat) : Int) := by push_cast; rfl
  have e2 : IntKind.u64.wrap ((y * 2 ^ (7 * k) : Nat) : Int) = ((y * 2 ^ (7 * k) : Nat) : Int) := by rw [IntKind.wrap_u64]; omega
  rw [hw, e1, e2, u64_or_nat _ _ ha2 hb, Nat.or_comm, nat_join (7 * k) _ _ (by simp) ha, hp, Nat.add_comm]
theorem uint_step' (acc y k : Nat) (hk : k ≤ 9) (hacc : acc < 128 ^ k) (h9 : k = 9 → y % 128 ≤ 1) :
    bits .or .u64 (acc : Int) (IntKind.u64.wrap ((y : Int) % 128 * 2 ^ (7 * k))) = ((acc + y % 128 * 128 ^ k : Nat) : Int) := by
  rw [← uint_step acc (y % 128) k hk hacc (by omega) h9]
  have e : IntKind.u64.wrap (((y % 128 : Nat)) : Int) = (y : Int) % 128 := by rw [IntKind.wrap_u64]; omega
  rw [e]
theorem uint_acc (acc y k : Nat) (hacc : acc < 128 ^ k) (hy : y < 128) : acc + y * 128 ^ k < 128 ^ (k + 1) := by
  rw [Nat.pow_succ]
  have : y * 128 ^ k ≤ 127 * 128 ^ k := Nat.mul_le_mul_right _ (by omega)
  omega

theorem rU_err {k acc : Nat} {xs r : List Int} {n : Nat} {e : Int} (h : rU k acc xs = (n, r, e)) (he : e ≠ 0) : n = 0 := by
  induction xs generalizing k acc with
  | nil => simp [rU] at h; exact h.1.symm
  | cons x xs ih =>
    rw [rU] at h
    split at h
    · simp at h; exact h.1.symm
    · split at h
      · simp at h; exact absurd h.2.2.symm he
      · exact ih h
theorem rU_suffix {k acc : Nat} {xs r : List Int} {n : Nat} {e : Int} (h : rU k acc xs = (n, r, e)) : r <:+ xs := by
  induction xs generalizing k acc with
  | nil => simp [rU] at h; rw [← h.2.1]; exact List.suffix_refl _
  | cons x xs ih =>
    rw [rU] at h
    split at h
    · simp at h; rw [← h.2.1]; exact List.suffix_cons x xs
    · split at h
      · simp at h; rw [← h.2.1]; exact List.suffix_cons x xs
      · exact (ih h).trans (List.suffix_cons x xs)
theorem rU_lt {xs : List Int} (hx : Byt xs) {k acc : Nat} (hk : k ≤ 9) (ha : acc < 128 ^ k) : (rU k acc xs).1 < 18446744073709551616 := by
  induction xs generalizing k acc with
  | nil => simp [rU]
  | cons x xs ih =>
    have h1 := hx x List.mem_cons_self
    have hx' : Byt xs := fun y hy => hx y (List.mem_cons_of_mem _ hy)
    rw [rU]
    split
    · simp
    · rename_i hn
      split
      · rename_i hlt
        by_cases e : k = 9
        · subst e
          have : x ≤ 1 := by omega
          have h2 : x.toNat * 128 ^ 9 ≤ 1 * 128 ^ 9 := Nat.mul_le_mul_right _ (by omega)
          have h3 : (128 : Nat) ^ 9 = 9223372036854775808 := by decide
          show acc + x.toNat * 128 ^ 9 < _
          omega
        · have h2 := uint_acc acc x.toNat k ha (by omega)
          have h3 : 128 ^ (k + 1) ≤ 128 ^ 9 := Nat.pow_le_pow_right (by omega) (by omega)
          have h4 : (128 : Nat) ^ 9 = 9223372036854775808 := by decide
          show acc + x.toNat * 128 ^ k < _
          omega
      · rename_i hlt
        exact ih hx' (by omega) (uint_acc acc (x.toNat % 128) k ha (by omega))
theorem Byt.suffix {xs ys : List Int} (h : Byt ys) (s : xs <:+ ys) : Byt xs := fun y hy => h y (s.subset hy)
/-- Reader.Raw: the bytes, what is left, the error -/
def rRaw (xs : List Int) : List Int × List Int × Int :=
  match rU 0 0 xs with
  | (n, r, e) => if e ≠ 0 then ([], r, e) else if r.length < n then ([], r, 3) else (r.take n, r.drop n, 0)
theorem rRaw_suffix (xs : List Int) : (rRaw xs).2.1 <:+ xs := by
  unfold rRaw
  rcases h : rU 0 0 xs with ⟨n, r, e⟩
  have hs := rU_suffix h
  dsimp only
  split
  · exact hs
  · split
    · exact hs
    · exact (List.drop_suffix _ _).trans hs
theorem rRaw_byt {xs : List Int} (hx : Byt xs) : Byt (rRaw xs).1 := by
  unfold rRaw
  rcases h : rU 0 0 xs with ⟨n, r, e⟩
  have hs := hx.suffix (rU_suffix h)
  dsimp only
  split
  · exact Byt.nil
  · split
    · exact Byt.nil
    · exact hs.take n
theorem rRaw_len (xs : List Int) : (rRaw xs).1.length ≤ xs.length := by
  unfold rRaw
  rcases h : rU 0 0 xs with ⟨n, r, e⟩
  have hs := (rU_suffix h).length_le
  dsimp only
  split
  · simp
  · split
    · simp
    · simp; omega
/-- the number of a zigzag form -/
def unzI (z : Int) : Int := bits .xor .i64 (wrap64 (z / 2)) (wrap64 (-(wrap64 (bits .and .u64 z 1))))
end Go.Wm
