/- Plain numbers and lists: two inputs of the hash that differ in one word have different hashes. -/
import Derived.Test.YtajdkcpcgfipbaaPureD
namespace Go.Wm
open Go.RowKit

theorem xor_lt64 {x y : Nat} (hx : x < 18446744073709551616) (hy : y < 18446744073709551616) : x ^^^ y < 18446744073709551616 := by
  have : x ^^^ y < 2 ^ 64 := Nat.xor_lt_two_pow (by omega) (by omega)
  omega
theorem xorR {x y c : Nat} (h : x ^^^ c = y ^^^ c) : x = y := by
  have := congrArg (fun z => z ^^^ c) h
  simpa [Nat.xor_assoc] using this
theorem xorL {x y c : Nat} (h : c ^^^ x = c ^^^ y) : x = y := by
  rw [Nat.xor_comm c x, Nat.xor_comm c y] at h
  exact xorR h
/-! ### one step of the hash is one to one in both of its arguments -/
def mulK (x : Nat) : Nat := x * 11400714819323198485 % 18446744073709551616
theorem mulK_lt (x : Nat) : mulK x < 18446744073709551616 := Nat.mod_lt _ (by decide)
theorem mulK_inj {x y : Nat} (hx : x < 18446744073709551616) (hy : y < 18446744073709551616) (h : mulK x = mulK y) : x = y := by
  have key : ∀ z, z < 18446744073709551616 → mulK z * 17428512612931826493 % 18446744073709551616 = z := fun z hz => by
    unfold mulK
    rw [Nat.mod_mul_mod, Nat.mul_assoc, show 11400714819323198485 * 17428512612931826493 = 18446744073709551616 * 10771413168148108919 + 1 from by decide]
    rw [Nat.mul_add, Nat.mul_one, ← Nat.mul_assoc, Nat.mul_comm z, Nat.mul_assoc, Nat.mul_add_mod, Nat.mod_eq_of_lt hz]
  rw [← key x hx, ← key y hy, h]
def xsh (m : Nat) : Nat := m ^^^ m / 4294967296
theorem xsh_inj {x y : Nat} (hx : x < 18446744073709551616) (hy : y < 18446744073709551616) (h : xsh x = xsh y) : x = y := by
  have e : ∀ z : Nat, z / 4294967296 = z >>> 32 := fun z => by rw [Nat.shiftRight_eq_div_pow]
  have hi : ∀ z, z < 18446744073709551616 → xsh z >>> 32 = z >>> 32 := fun z hz => by
    unfold xsh
    rw [e, Nat.shiftRight_xor_distrib, ← Nat.shiftRight_add, show z >>> (32 + 32) = 0 from by rw [Nat.shiftRight_eq_div_pow]; exact Nat.div_eq_of_lt hz, Nat.xor_zero]
  have h1 : x >>> 32 = y >>> 32 := by rw [← hi x hx, ← hi y hy, h]
  unfold xsh at h
  rw [e, e, h1] at h
  exact xorR h
theorem mixI_nat (s w : Nat) (hs : s < 18446744073709551616) (hw : w < 18446744073709551616) : mixI s w = (xsh (mulK (s ^^^ w)) : Int) := by
  have hx : s ^^^ w < 18446744073709551616 := xor_lt64 hs hw
  have hm := mulK_lt (s ^^^ w)
  unfold mixI
  rw [u64_xor_nat s w hs hw]
  have e : IntKind.u64.wrap (((s ^^^ w : Nat) : Int) * 11400714819323198485) = (mulK (s ^^^ w) : Int) := by
    rw [IntKind.wrap_u64]; unfold mulK; omega
  rw [e]
  have e2 : (mulK (s ^^^ w) : Int) / 4294967296 = ((mulK (s ^^^ w) / 4294967296 : Nat) : Int) := by omega
  rw [e2, u64_xor_nat _ _ hm (by omega)]
  rfl
theorem mixI_inj_left {s s' w : Int} (hs : 0 ≤ s ∧ s < 18446744073709551616) (hs' : 0 ≤ s' ∧ s' < 18446744073709551616) (hw : 0 ≤ w ∧ w < 18446744073709551616) (h : mixI s w = mixI s' w) : s = s' := by
  obtain ⟨a, rfl⟩ := Int.eq_ofNat_of_zero_le hs.1
  obtain ⟨b, rfl⟩ := Int.eq_ofNat_of_zero_le hs'.1
  obtain ⟨c, rfl⟩ := Int.eq_ofNat_of_zero_le hw.1
  rw [mixI_nat a c (by omega) (by omega), mixI_nat b c (by omega) (by omega)] at h
  have h0 : xsh (mulK (a ^^^ c)) = xsh (mulK (b ^^^ c)) := by omega
  have h1 := xsh_inj (mulK_lt _) (mulK_lt _) h0
  have h2 := mulK_inj (xor_lt64 (by omega) (by omega)) (xor_lt64 (by omega) (by omega)) h1
  rw [xorR h2]
theorem mixI_inj_right {s w w' : Int} (hs : 0 ≤ s ∧ s < 18446744073709551616) (hw : 0 ≤ w ∧ w < 18446744073709551616) (hw' : 0 ≤ w' ∧ w' < 18446744073709551616) (h : mixI s w = mixI s w') : w = w' := by
  obtain ⟨a, rfl⟩ := Int.eq_ofNat_of_zero_le hw.1
  obtain ⟨b, rfl⟩ := Int.eq_ofNat_of_zero_le hw'.1
  obtain ⟨c, rfl⟩ := Int.eq_ofNat_of_zero_le hs.1
  rw [mixI_nat c a (by omega) (by omega), mixI_nat c b (by omega) (by omega)] at h
  have h0 : xsh (mulK (c ^^^ a)) = xsh (mulK (c ^^^ b)) := by omega
  have h1 := xsh_inj (mulK_lt _) (mulK_lt _) h0
  have h2 := mulK_inj (xor_lt64 (by omega) (by omega)) (xor_lt64 (by omega) (by omega)) h1
  rw [xorL h2]
theorem u64_range (n : Int) : 0 ≤ u64 n ∧ u64 n < 18446744073709551616 := wrap_u64_range n
theorem fold_inj (l : List Int) {s s' : Int} (hs : 0 ≤ s ∧ s < 18446744073709551616) (hs' : 0 ≤ s' ∧ s' < 18446744073709551616)
    (h : l.foldl (fun s n => mixI s (u64 n)) s = l.foldl (fun s n => mixI s (u64 n)) s') : s = s' := by
  induction l generalizing s s' with
  | nil => exact h
  | cons n l ih =>
    have h1 := ih (mixI_range s (u64 n)) (mixI_range s' (u64 n)) h
    exact mixI_inj_left hs hs' (u64_range n) h1
theorem fold_range (l : List Int) {s : Int} (hs : 0 ≤ s ∧ s < 18446744073709551616) : 0 ≤ l.foldl (fun s n => mixI s (u64 n)) s ∧ l.foldl (fun s n => mixI s (u64 n)) s < 18446744073709551616 := by
  induction l generalizing s with
  | nil => exact hs
  | cons n l ih => exact ih (mixI_range s (u64 n))
/-- two lists that differ in one number, as words, have different sums -/
theorem sumI_ne (lbl p q : List Int) (a b : Int) (h : u64 a ≠ u64 b) : sumI lbl (p ++ a :: q) ≠ sumI lbl (p ++ b :: q) := by
  intro e
  unfold sumI at e
  have hlen : (p ++ a :: q).length = (p ++ b :: q).length := by simp
  rw [hlen] at e
  obtain ⟨s0, hs0⟩ : ∃ s0, s0 = mixI (mixI ((wordsI lbl).foldl mixI 0) lbl.length) ((p ++ b :: q).length : Int) := ⟨_, rfl⟩
  have hr0 : 0 ≤ s0 ∧ s0 < 18446744073709551616 := by rw [hs0]; exact mixI_range _ _
  rw [← hs0] at e
  simp only [List.foldl_append, List.foldl_cons] at e
  have h1 := mixI_inj_left (fold_range q (mixI_range _ _)) (fold_range q (mixI_range _ _)) ⟨by omega, by omega⟩ e
  have h2 := fold_inj q (mixI_range _ _) (mixI_range _ _) h1
  exact h (mixI_inj_right (fold_range p hr0) (u64_range a) (u64_range b) h2)

/-! ### one byte lies in one word -/
theorem wordLE_append (X Y : List Int) : wordLE (X ++ Y) = wordLE X + wordLE Y * 256 ^ X.length := by
  induction X with
  | nil => simp [wordLE]
  | cons x X ih =>
    simp only [List.cons_append, wordLE, ih, List.length_cons, Int.pow_succ]
    rw [Int.mul_add, ← Int.mul_assoc, Int.mul_comm (256 : Int) (wordLE Y), Int.mul_assoc, Int.mul_comm (256 : Int) (256 ^ X.length)]
    omega
theorem pow256_pos (n : Nat) : (0 : Int) < 256 ^ n := Int.pow_pos (by omega)
theorem wordLE_ne (X Y : List Int) (x y : Int) (h : x ≠ y) : wordLE (X ++ x :: Y) ≠ wordLE (X ++ y :: Y) := by
  intro e
  rw [wordLE_append, wordLE_append] at e
  simp only [wordLE] at e
  have e1 : (x + 256 * wordLE Y) * 256 ^ X.length = (y + 256 * wordLE Y) * 256 ^ X.length := by omega
  have := Int.eq_of_mul_eq_mul_right (Int.ne_of_gt (pow256_pos X.length)) e1
  omega
theorem word_far (A B : List Int) (x y : Int) (k : Nat) (hk : k ≠ A.length / 8) : wordAt (A ++ x :: B) (8 * k) = wordAt (A ++ y :: B) (8 * k) := by
  unfold wordAt
  by_cases h : 8 * k ≤ A.length
  · -- the chunk ends ahead of the byte
    have h8 : 8 * k + 8 ≤ A.length := by omega
    rw [List.drop_append_of_le_length h, List.drop_append_of_le_length h, List.take_append_of_le_length (by simp; omega), List.take_append_of_le_length (by simp; omega)]
  · have e : ∀ z : Int, (A ++ z :: B).drop (8 * k) = B.drop (8 * k - A.length - 1) := fun z => by
      rw [List.drop_append, List.drop_eq_nil_of_le (by omega : A.length ≤ 8 * k), List.nil_append, show 8 * k - A.length = (8 * k - A.length - 1) + 1 from by omega, List.drop_succ_cons]
      simp
    rw [e x, e y]
theorem word_near (A B : List Int) (x y : Int) (h : x ≠ y) : wordAt (A ++ x :: B) (8 * (A.length / 8)) ≠ wordAt (A ++ y :: B) (8 * (A.length / 8)) := by
  unfold wordAt
  have hl : 8 * (A.length / 8) ≤ A.length := by omega
  have e : ∀ z : Int, ((A ++ z :: B).drop (8 * (A.length / 8))).take 8 = A.drop (8 * (A.length / 8)) ++ z :: B.take (7 - (A.drop (8 * (A.length / 8))).length) := fun z => by
    have hd : (A.drop (8 * (A.length / 8))).length < 8 := by simp; omega
    rw [List.drop_append_of_le_length hl, List.take_append, List.take_of_length_le (by omega), show 8 - (A.drop (8 * (A.length / 8))).length = (7 - (A.drop (8 * (A.length / 8))).length) + 1 from by omega, List.take_succ_cons]
  rw [e x, e y]
  exact wordLE_ne _ _ x y h
theorem wordAt_range {xs : List Int} (h : Byt xs) (k : Nat) : 0 ≤ wordAt xs k ∧ wordAt xs k < 18446744073709551616 := by
  have hb := wordLE_bound ((h.drop k).take 8)
  have hl : ((xs.drop k).take 8).length ≤ 8 := List.length_take_le _ _
  have hn : (256 : Nat) ^ ((xs.drop k).take 8).length ≤ 256 ^ 8 := Nat.pow_le_pow_right (by omega) hl
  have h8 : (256 : Nat) ^ 8 = 18446744073709551616 := by decide
  have hp : (256 : Int) ^ ((xs.drop k).take 8).length = (((256 : Nat) ^ ((xs.drop k).take 8).length : Nat) : Int) := by rw [Int.natCast_pow]; rfl
  unfold wordAt
  omega
theorem words_split (A B : List Int) (x y : Int) (hx : Byt (A ++ x :: B)) (hy : Byt (A ++ y :: B)) (h : x ≠ y) :
    ∃ p q a b, wordsI (A ++ x :: B) = p ++ a :: q ∧ wordsI (A ++ y :: B) = p ++ b :: q ∧ a ≠ b ∧ (0 ≤ a ∧ a < 18446744073709551616) ∧ (0 ≤ b ∧ b < 18446744073709551616) := by
  obtain ⟨k0, hk0⟩ : ∃ k0, k0 = A.length / 8 := ⟨_, rfl⟩
  obtain ⟨r, hr⟩ : ∃ r, ((A ++ x :: B).length + 7) / 8 = k0 + (r + 1) := ⟨((A ++ x :: B).length + 7) / 8 - k0 - 1, by simp only [List.length_append, List.length_cons]; omega⟩
  have hlen : (A ++ y :: B).length = (A ++ x :: B).length := by simp
  have key : ∀ f : Nat → Int, (List.range (k0 + (r + 1))).map f = (List.range k0).map f ++ f k0 :: (List.range r).map (fun j => f (k0 + (j + 1))) := fun f => by
    rw [List.range_add, List.map_append, List.range_succ_eq_map]
    simp [Function.comp]
  refine ⟨(List.range k0).map fun k => wordAt (A ++ x :: B) (8 * k), (List.range r).map fun j => wordAt (A ++ x :: B) (8 * (k0 + (j + 1))), wordAt (A ++ x :: B) (8 * k0), wordAt (A ++ y :: B) (8 * k0), ?_, ?_, ?_, wordAt_range hx _, wordAt_range hy _⟩
  · unfold wordsI; rw [hr, key]
  · unfold wordsI; rw [hlen, hr, key]
    congr 1
    · apply List.map_congr_left
      intro k hk
      have hk' : k < k0 := List.mem_range.1 hk
      exact word_far A B y x k (by omega)
    · congr 1
      apply List.map_congr_left
      intro j _
      exact word_far A B y x _ (by omega)
  · rw [hk0]; exact word_near A B x y h
theorem u64_wrap64 {a : Int} (h0 : 0 ≤ a) (h1 : a < 18446744073709551616) : u64 (wrap64 a) = a := by
  unfold u64 wrap64; rw [IntKind.wrap_u64]; omega
/-- two byte lists that differ in one byte have different hashes -/
theorem hashB_ne (lbl A B : List Int) (x y : Int) (hx : Byt (A ++ x :: B)) (hy : Byt (A ++ y :: B)) (h : x ≠ y) : hashB lbl (A ++ x :: B) ≠ hashB lbl (A ++ y :: B) := by
  obtain ⟨p, q, a, b, e1, e2, hab, ha, hb⟩ := words_split A B x y hx hy h
  have hlen : (A ++ y :: B).length = (A ++ x :: B).length := by simp
  unfold hashB
  rw [e1, e2, hlen, List.map_append, List.map_append, List.map_cons, List.map_cons, List.append_assoc, List.append_assoc, List.cons_append, List.cons_append]
  exact sumI_ne _ _ _ _ _ (by rw [u64_wrap64 ha.1 ha.2, u64_wrap64 hb.1 hb.2]; exact hab)
end Go.Wm
