/- Plain numbers and lists: words of bytes, the hash as the program computes it. No program in sight. -/
import Derived.Laws.BitsAllLaws
import Derived.Laws.Bits64
import Derived.WalkArith
import Derived.IntWalk
namespace Go.Wm
open Go.RowKit

def Byt (xs : List Int) : Prop := ∀ x ∈ xs, 0 ≤ x ∧ x < 256
theorem Byt.nil : Byt [] := fun _ h => by cases h
theorem Byt.cons {x : Int} {xs : List Int} (h : 0 ≤ x ∧ x < 256) (k : Byt xs) : Byt (x :: xs) := fun y hy => by
  rcases List.mem_cons.1 hy with rfl | hy
  · exact h
  · exact k y hy
theorem Byt.append {xs ys : List Int} (h : Byt xs) (k : Byt ys) : Byt (xs ++ ys) := fun y hy => (List.mem_append.1 hy).elim (h y) (k y)
theorem Byt.take {xs : List Int} (h : Byt xs) (n : Nat) : Byt (xs.take n) := fun y hy => h y (List.mem_of_mem_take hy)
theorem Byt.drop {xs : List Int} (h : Byt xs) (n : Nat) : Byt (xs.drop n) := fun y hy => h y (List.mem_of_mem_drop hy)
theorem Byt.of_append_left {xs ys : List Int} (h : Byt (xs ++ ys)) : Byt xs := fun y hy => h y (List.mem_append.2 (.inl hy))
theorem Byt.of_append_right {xs ys : List Int} (h : Byt (xs ++ ys)) : Byt ys := fun y hy => h y (List.mem_append.2 (.inr hy))
theorem Byt.get {xs : List Int} (h : Byt xs) (i : Nat) : 0 ≤ xs[i]?.getD 0 ∧ xs[i]?.getD 0 < 256 := by
  by_cases hi : i < xs.length
  · rw [List.getElem?_eq_getElem hi]; exact h _ (List.getElem_mem hi)
  · rw [List.getElem?_eq_none (by omega)]; simp

/-- little-endian -/
def wordLE : List Int → Int
  | [] => 0
  | b :: r => b + 256 * wordLE r

theorem wordLE_bound {xs : List Int} (h : Byt xs) : 0 ≤ wordLE xs ∧ wordLE xs < 256 ^ xs.length := by
  induction xs with
  | nil => simp [wordLE]
  | cons x xs ih =>
    have hx := h x List.mem_cons_self
    have hr := ih (fun y hy => h y (List.mem_cons_of_mem _ hy))
    simp only [wordLE, List.length_cons, Int.pow_succ]
    omega
theorem wordLE_snoc (xs : List Int) (b : Int) : wordLE (xs ++ [b]) = wordLE xs + b * 256 ^ xs.length := by
  induction xs with
  | nil => simp [wordLE]
  | cons x xs ih =>
    simp only [List.cons_append, wordLE, ih, List.length_cons, Int.pow_succ]
    rw [Int.mul_add, ← Int.mul_assoc, Int.mul_comm (256 : Int) b, Int.mul_assoc, Int.mul_comm (256 : Int) (256 ^ xs.length)]
    omega

theorem pow256 (t : Nat) : (256 : Int) ^ t = 2 ^ (8 * t) := by
  rw [Int.pow_mul]; rfl

theorem or_step (acc b : Int) (t : Nat) (ht : t < 8) (h0 : 0 ≤ acc) (h1 : acc < 256 ^ t) (h2 : 0 ≤ b) (h3 : b < 256) :
    bits .or .u64 acc (IntKind.u64.wrap (IntKind.u64.wrap b * 2 ^ (8 * t))) = acc + b * 256 ^ t := by
  have hw : IntKind.u64.wrap b = b := by rw [IntKind.wrap_u64]; omega
  obtain ⟨A, rfl⟩ := Int.eq_ofNat_of_zero_le h0
  obtain ⟨B, rfl⟩ := Int.eq_ofNat_of_zero_le h2
  have hb : (B * 2 ^ (8 * t) : Nat) < 18446744073709551616 := by
    have hp : 2 ^ (8 * t) ≤ 2 ^ 56 := Nat.pow_le_pow_right (by omega) (by omega)
    have hB : B < 256 := by omega
    calc B * 2 ^ (8 * t) ≤ 255 * 2 ^ 56 := Nat.mul_le_mul (by omega) hp
      _ < 18446744073709551616 := by decide
  have ha : A < 2 ^ (8 * t) := by rw [pow256] at h1; exact_mod_cast h1
  have ha2 : A < 18446744073709551616 := Nat.lt_of_lt_of_le ha (Nat.le_trans (Nat.pow_le_pow_right (by omega) (by omega : 8 * t ≤ 56)) (by decide))
  rw [hw, pow256]
  have e : ((B : Int) * 2 ^ (8 * t)) = ((B * 2 ^ (8 * t) : Nat) : Int) := by push_cast; rfl
  rw [e]
  have hw2 : IntKind.u64.wrap ((B * 2 ^ (8 * t) : Nat) : Int) = ((B * 2 ^ (8 * t) : Nat) : Int) := by
    rw [IntKind.wrap_u64]; omega
  rw [hw2, u64_or_nat A _ ha2 hb, Nat.or_comm, nat_join (8 * t) _ _ (by simp) ha]
  push_cast; omega

def wordAt (xs : List Int) (i : Nat) : Int := wordLE ((xs.drop i).take 8)
def wordsI (xs : List Int) : List Int := (List.range ((xs.length + 7) / 8)).map fun k => wordAt xs (8 * k)
theorem take_drop_snoc (xs : List Int) (i t : Nat) (h : i + t < xs.length) : (xs.drop i).take (t + 1) = (xs.drop i).take t ++ [xs[i + t]?.getD 0] := by
  rw [List.take_succ_eq_append_getElem (by simp; omega)]
  simp [h]

/-- the inner step of hash.words: byte t of the word that begins at i -/
theorem word_step (xs : List Int) (hx : Byt xs) (i t : Nat) (ht : t < 8) (h : i + t < xs.length) (b : Int) (hb : b = xs[i + t]?.getD 0) :
    bits .or .u64 (wordLE ((xs.drop i).take t)) (IntKind.u64.wrap (IntKind.u64.wrap b * 2 ^ (8 * t))) = wordLE ((xs.drop i).take (t + 1)) := by
  subst hb
  have hl : ((xs.drop i).take t).length = t := by simp; omega
  have hbd := wordLE_bound ((hx.drop i).take t)
  rw [hl] at hbd
  have hg := hx.get (i + t)
  rw [or_step _ _ t ht hbd.1 hbd.2 hg.1 hg.2, take_drop_snoc xs i t h, wordLE_snoc, hl]

/-- a string's bytes -/
def strI (s : ByteArray) : List Int := s.data.toList.map fun b => (b.toNat : Int)
theorem strI_length (s : ByteArray) : (strI s).length = s.size := by simp [strI]
theorem strI_byt (s : ByteArray) : Byt (strI s) := fun x hx => by
  obtain ⟨b, _, rfl⟩ := List.mem_map.1 hx
  have := b.toNat_lt
  omega
theorem strI_get (s : ByteArray) (i : Nat) (h : i < s.size) : (((s[i]'h).toNat : Nat) : Int) = (strI s)[i]?.getD 0 := by
  have h' : i < s.data.toList.length := by simpa using h
  simp only [strI, List.getElem?_map, List.getElem?_eq_getElem h', Option.map_some, Option.getD_some]
  rfl
theorem wordAt_full (xs : List Int) (k t : Nat) (h : 8 ≤ t ∨ xs.length ≤ 8 * k + t) (h2 : t ≤ 8) : wordLE ((xs.drop (8 * k)).take t) = wordAt xs (8 * k) := by
  unfold wordAt
  rcases h with h | h
  · rw [show t = 8 from by omega]
  · rw [List.take_of_length_le (by simp; omega), List.take_of_length_le (by simp; omega)]

def mixI (s w : Int) : Int :=
  bits .xor .u64 (IntKind.u64.wrap (bits .xor .u64 s w * 11400714819323198485)) (IntKind.u64.wrap (bits .xor .u64 s w * 11400714819323198485) / 4294967296)
def u64 (n : Int) : Int := IntKind.u64.wrap n
/-- hash.Sum at the label's bytes -/
def sumI (lbl l : List Int) : Int :=
  mixI (l.foldl (fun s n => mixI s (u64 n)) (mixI (mixI ((wordsI lbl).foldl mixI 0) lbl.length) l.length)) 0
theorem foldl_take_succ {α β : Type} (f : β → α → β) (b : β) (xs : List α) (k : Nat) (h : k < xs.length) : (xs.take (k + 1)).foldl f b = f ((xs.take k).foldl f b) xs[k] := by
  rw [List.take_succ_eq_append_getElem h, List.foldl_append]; rfl
theorem u64_nat (n : Nat) (h : n ≤ 140737488351232) : u64 (n : Int) = n := by unfold u64; rw [IntKind.wrap_u64]; omega
/-- hash.Bytes -/
def hashB (lbl b : List Int) : Int := sumI lbl ((wordsI b).map wrap64 ++ [(b.length : Int)])

/-! ### package wire's numbers -/
/-- the varint of a number -/
def varN (n : Nat) : List Int := if n < 128 then [(n : Int)] else ((n % 128 + 128 : Nat) : Int) :: varN (n / 128)
termination_by n
decreasing_by omega
theorem varN_small {n : Nat} (h : n < 128) : varN n = [(n : Int)] := by rw [varN, if_pos h]
theorem varN_big {n : Nat} (h : ¬ n < 128) : varN n = ((n % 128 + 128 : Nat) : Int) :: varN (n / 128) := by rw [varN, if_neg h]
theorem varN_le : ∀ (k n : Nat), n < 128 ^ (k + 1) → (varN n).length ≤ k + 1
  | 0, n, h => by rw [varN_small (by simpa using h)]; simp
  | k + 1, n, h => by
    by_cases h1 : n < 128
    · rw [varN_small h1]; simp
    · rw [varN_big h1, List.length_cons]
      have := varN_le k (n / 128) (by rw [Nat.div_lt_iff_lt_mul (by omega)]; rw [Nat.pow_succ] at h; exact h)
      omega
theorem varN_length (n : Nat) (h : n < 18446744073709551616) : (varN n).length ≤ 10 := varN_le 9 n (Nat.lt_of_lt_of_le h (by decide))
theorem varN_byt (n : Nat) : Byt (varN n) := by
  induction n using varN.induct with
  | case1 n h => rw [varN_small h]; exact Byt.cons ⟨by omega, by omega⟩ Byt.nil
  | case2 n h ih => rw [varN_big h]; exact Byt.cons ⟨by omega, by omega⟩ ih
def zigI (n : Int) : Int := bits .xor .u64 (IntKind.u64.wrap (IntKind.u64.wrap n * 2)) (IntKind.u64.wrap (n / 9223372036854775808))
theorem or128 (n : Nat) : bits .or .u8 (IntKind.u8.wrap (n : Int)) 128 = ((n % 128 + 128 : Nat) : Int) := by
  have h : IntKind.u8.wrap (n : Int) = ((n % 256 : Nat) : Int) := by rw [IntKind.wrap_u8']; omega
  have d : ∀ a, a < 256 → a ||| 128 = a % 128 + 128 := by decide +kernel
  rw [h, show (128 : Int) = ((128 : Nat) : Int) from rfl, u8_or_nat _ _ (by omega) (by omega), d _ (by omega)]
  omega

def zigN (n : Int) : Nat := if n < 0 then (-2 * n - 1).toNat else (2 * n).toNat
theorem xor_ones (a : Nat) (h : a < 18446744073709551616) : a ^^^ 18446744073709551615 = 18446744073709551615 - a := by
  have h1 : (BitVec.ofNat 64 a ^^^ BitVec.allOnes 64).toNat = 18446744073709551615 - a := by
    rw [BitVec.xor_allOnes, BitVec.toNat_not, BitVec.toNat_ofNat, Nat.mod_eq_of_lt h]
  rw [BitVec.toNat_xor, BitVec.toNat_ofNat, Nat.mod_eq_of_lt h, BitVec.toNat_allOnes] at h1
  exact h1
theorem zigI_eq (n : Int) (h1 : -9223372036854775808 ≤ n) (h2 : n ≤ 9223372036854775807) : zigI n = (zigN n : Int) := by
  unfold zigI zigN
  by_cases h : n < 0
  · rw [if_pos h]
    have e1 : IntKind.u64.wrap (IntKind.u64.wrap n * 2) = ((18446744073709551616 + 2 * n).toNat : Int) := by
      rw [IntKind.wrap_u64, IntKind.wrap_u64]; omega
    have e2 : IntKind.u64.wrap (n / 9223372036854775808) = ((18446744073709551615 : Nat) : Int) := by
      rw [show n / 9223372036854775808 = -1 from by omega, IntKind.wrap_u64]; rfl
    rw [e1, e2, u64_xor_nat _ _ (by omega) (by omega), xor_ones _ (by omega)]
    omega
  · rw [if_neg h]
    have e1 : IntKind.u64.wrap (IntKind.u64.wrap n * 2) = ((2 * n).toNat : Int) := by
      rw [IntKind.wrap_u64, IntKind.wrap_u64]; omega
    have e2 : IntKind.u64.wrap (n / 9223372036854775808) = ((0 : Nat) : Int) := by
      rw [show n / 9223372036854775808 = 0 from by omega, IntKind.wrap_u64]; rfl
    rw [e1, e2, u64_xor_nat _ _ (by omega) (by omega), Nat.xor_zero]
theorem zigN_lt (n : Int) (h1 : -9223372036854775808 ≤ n) (h2 : n ≤ 9223372036854775807) : zigN n < 18446744073709551616 := by
  unfold zigN; split <;> omega
/-- a number, signed, on the wire -/
def intW (n : Int) : List Int := varN (zigN n)
/-- bytes, with their number ahead, on the wire -/
def rawW (b : List Int) : List Int := varN b.length ++ b
theorem intW_byt (n : Int) : Byt (intW n) := varN_byt _
theorem rawW_byt {b : List Int} (h : Byt b) : Byt (rawW b) := (varN_byt _).append h
theorem intW_length (n : Int) (h1 : -9223372036854775808 ≤ n) (h2 : n ≤ 9223372036854775807) : (intW n).length ≤ 10 := varN_length _ (zigN_lt n h1 h2)
theorem rawW_length (b : List Int) (h : b.length < 18446744073709551616) : (rawW b).length ≤ b.length + 10 := by
  unfold rawW; rw [List.length_append]; have := varN_length b.length h; omega

end Go.Wm
