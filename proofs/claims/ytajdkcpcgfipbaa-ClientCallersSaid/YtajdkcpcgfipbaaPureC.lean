/- Plain numbers and lists: the frames of package journal. -/
import Derived.Test.YtajdkcpcgfipbaaPureB
namespace Go.Wm
open Go.RowKit

/-- ref01.Around -/
def aroundI (n m : Int) : Int := (if n < 0 then -(n + 1) else n) % m
theorem aroundI_range (n m : Int) (hm : 1 ≤ m) : 0 ≤ aroundI n m ∧ aroundI n m < m := by
  unfold aroundI
  exact ⟨Int.emod_nonneg _ (by omega), Int.emod_lt_of_pos _ (by omega)⟩
theorem xor_u64_range (a b : Int) (ha : 0 ≤ a ∧ a < 18446744073709551616) (hb : 0 ≤ b ∧ b < 18446744073709551616) : 0 ≤ bits .xor .u64 a b ∧ bits .xor .u64 a b < 18446744073709551616 := by
  obtain ⟨A, rfl⟩ := Int.eq_ofNat_of_zero_le ha.1
  obtain ⟨B, rfl⟩ := Int.eq_ofNat_of_zero_le hb.1
  rw [u64_xor_nat A B (by omega) (by omega)]
  have : A ^^^ B < 2 ^ 64 := Nat.xor_lt_two_pow (by omega) (by omega)
  omega
theorem wrap_u64_range (n : Int) : 0 ≤ IntKind.u64.wrap n ∧ IntKind.u64.wrap n < 18446744073709551616 := by rw [IntKind.wrap_u64]; omega
theorem mixI_range (s w : Int) : 0 ≤ mixI s w ∧ mixI s w < 18446744073709551616 := by
  unfold mixI
  have h := wrap_u64_range (bits .xor .u64 s w * 11400714819323198485)
  exact xor_u64_range _ _ h (by omega)
theorem sumI_range (lbl l : List Int) : 0 ≤ sumI lbl l ∧ sumI lbl l < 18446744073709551616 := mixI_range _ _
theorem hashB_range (lbl b : List Int) : 0 ≤ hashB lbl b ∧ hashB lbl b < 18446744073709551616 := sumI_range _ _
def hashN (lbl b : List Int) : Nat := (hashB lbl b).toNat
theorem hashN_eq (lbl b : List Int) : hashB lbl b = (hashN lbl b : Int) := by have := hashB_range lbl b; unfold hashN; omega
theorem hashN_lt (lbl b : List Int) : hashN lbl b < 18446744073709551616 := by have := hashB_range lbl b; unfold hashN; omega

/-- 'record' -/
def recLbl : List Int := [114, 101, 99, 111, 114, 100]
/-- the core of a record -/
def coreB (n : Int) (b : List Int) : List Int := intW n ++ rawW b
/-- the frame of a record -/
def frameB (n : Int) (b : List Int) : List Int := rawW (coreB n b) ++ varN (hashN recLbl (coreB n b))
theorem coreB_byt {n : Int} {b : List Int} (h : Byt b) : Byt (coreB n b) := (intW_byt n).append (rawW_byt h)
theorem frameB_byt {n : Int} {b : List Int} (h : Byt b) : Byt (frameB n b) := (rawW_byt (coreB_byt h)).append (varN_byt _)
theorem coreB_length (n : Int) (b : List Int) (h1 : -9223372036854775808 ≤ n) (h2 : n ≤ 9223372036854775807) (hb : b.length < 18446744073709551616) : (coreB n b).length ≤ b.length + 20 := by
  unfold coreB; rw [List.length_append]; have := intW_length n h1 h2; have := rawW_length b hb; omega
theorem frameB_length (n : Int) (b : List Int) (h1 : -9223372036854775808 ≤ n) (h2 : n ≤ 9223372036854775807) (hb : b.length < 9223372036854775808) : (frameB n b).length ≤ b.length + 40 := by
  unfold frameB; rw [List.length_append]
  have := coreB_length n b h1 h2 (by omega)
  have := rawW_length (coreB n b) (by omega)
  have := varN_length (hashN recLbl (coreB n b)) (hashN_lt _ _)
  omega

/-- journal.record: the record whose frame may be at the beginning -/
def cutN (b : List Int) : Nat := min b.length (10 + min (rU 0 0 (b.take 10)).1 b.length)
def innerB (raw : List Int) : List Int :=
  if (rU 0 0 raw).2.2 = 0 then (rRaw (rU 0 0 raw).2.1).1 else []
def recordB (b : List Int) : List Int := innerB (rRaw (b.take (cutN b))).1
theorem innerB_len (raw : List Int) : (innerB raw).length ≤ raw.length := by
  unfold innerB
  split
  · have h1 := rRaw_len (rU 0 0 raw).2.1
    have h2 := (rU_suffix (k := 0) (acc := 0) (xs := raw) rfl).length_le
    exact Nat.le_trans h1 h2
  · simp
theorem innerB_byt {raw : List Int} (h : Byt raw) : Byt (innerB raw) := by
  unfold innerB
  split
  · exact rRaw_byt (h.suffix (rU_suffix (k := 0) (acc := 0) (xs := raw) rfl))
  · exact Byt.nil
theorem recordB_byt {b : List Int} (h : Byt b) : Byt (recordB b) := innerB_byt (rRaw_byt (h.take _))
theorem recordB_len (b : List Int) : (recordB b).length ≤ b.length := by
  have h1 := innerB_len (rRaw (b.take (cutN b))).1
  have h2 := rRaw_len (b.take (cutN b))
  have h3 := List.length_take_le (cutN b) b
  have h4 : (b.take (cutN b)).length ≤ b.length := by simp; omega
  unfold recordB
  omega
end Go.Wm
