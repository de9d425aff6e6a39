/- Plain numbers and lists: a frame is read back; a frame with one byte turned behind its length is not read. -/
import Derived.Test.YtajdkcpcgfipbaaPureE
namespace Go.Wm
open Go.RowKit

theorem rU_varN (n : Nat) : ∀ (k acc : Nat) (t : List Int), k ≤ 9 → n * 128 ^ k < 18446744073709551616 → (0 < k → 0 < n) → rU k acc (varN n ++ t) = (acc + n * 128 ^ k, t, 0) := by
  have p9 : (128 : Nat) ^ 9 = 9223372036854775808 := by decide
  induction n using varN.induct with
  | case1 n h =>
    intro k acc t hk hn hp
    rw [varN_small h, List.cons_append, List.nil_append, rU, if_neg, if_pos (by omega), Int.toNat_natCast]
    rintro (⟨rfl, h1⟩ | ⟨h1, h2⟩)
    · rw [p9] at hn; omega
    · have := hp h1; omega
  | case2 n h ih =>
    intro k acc t hk hn hp
    have hk9 : k ≠ 9 := by
      rintro rfl
      rw [p9] at hn; omega
    have e1 : (((n % 128 + 128 : Nat) : Int)).toNat % 128 = n % 128 := by rw [Int.toNat_natCast]; omega
    rw [varN_big h, List.cons_append, rU, if_neg (by omega), if_neg (by omega), e1]
    have hs : n * 128 ^ k = (n % 128) * 128 ^ k + (n / 128) * 128 ^ (k + 1) := by
      rw [Nat.pow_succ, Nat.mul_comm (128 ^ k) 128, ← Nat.mul_assoc, ← Nat.add_mul]
      congr 1; omega
    rw [ih (k + 1) _ t (by omega) (by omega) (fun _ => by omega), hs]
    congr 1
    omega
theorem flip8 : ∀ j : Fin 8, ∀ z : Fin 256, bits .xor .u8 ((z.val : Nat) : Int) ((2 : Int) ^ j.val % 256) ≠ ((z.val : Nat) : Int) ∧ 0 ≤ bits .xor .u8 ((z.val : Nat) : Int) ((2 : Int) ^ j.val % 256) ∧ bits .xor .u8 ((z.val : Nat) : Int) ((2 : Int) ^ j.val % 256) < 256 := by decide +kernel
theorem flip8' (k : Nat) (z : Int) (hz : 0 ≤ z ∧ z < 256) : z ≠ bits .xor .u8 z ((2 : Int) ^ (k % 8) % 256) ∧ 0 ≤ bits .xor .u8 z ((2 : Int) ^ (k % 8) % 256) ∧ bits .xor .u8 z ((2 : Int) ^ (k % 8) % 256) < 256 := by
  obtain ⟨n, rfl⟩ := Int.eq_ofNat_of_zero_le hz.1
  obtain ⟨h1, h2⟩ := flip8 ⟨k % 8, by omega⟩ ⟨n, by omega⟩
  exact ⟨fun e => h1 e.symm, h2⟩
theorem set_parts (F : List Int) (i : Nat) (hi : i < F.length) (z' : Int) : F = F.take i ++ F[i] :: F.drop (i + 1) ∧ F.set i z' = F.take i ++ z' :: F.drop (i + 1) := by
  refine ⟨?_, List.set_eq_take_append_cons_drop .. |>.trans (by rw [if_pos hi])⟩
  rw [List.getElem_cons_drop, List.take_append_drop]
theorem rU_varN0 (n : Nat) (hn : n < 18446744073709551616) (t : List Int) : rU 0 0 (varN n ++ t) = (n, t, 0) := by
  have := rU_varN n 0 0 t (by omega) (by simpa using hn) (by omega)
  simpa using this
theorem rRaw_rawW (c t : List Int) (hc : c.length < 18446744073709551616) : rRaw (rawW c ++ t) = (c, t, 0) := by
  unfold rRaw rawW
  rw [List.append_assoc, rU_varN0 _ hc]
  simp
theorem innerB_coreB (n : Int) (b : List Int) (h1 : -9223372036854775808 ≤ n) (h2 : n ≤ 9223372036854775807) (hb : b.length < 18446744073709551616) : innerB (coreB n b) = b := by
  unfold innerB coreB intW
  rw [rU_varN0 _ (zigN_lt n h1 h2)]
  have := rRaw_rawW b [] hb
  rw [List.append_nil] at this
  simp [this]
theorem recordB_frame (n : Int) (y t : List Int) (h1 : -9223372036854775808 ≤ n) (h2 : n ≤ 9223372036854775807) (hy : y.length < 9223372036854775808) : recordB (frameB n y ++ t) = y := by
  have hcl := coreB_length n y h1 h2 (by omega)
  have hv := varN_length (coreB n y).length (by omega)
  have hF : frameB n y ++ t = varN (coreB n y).length ++ (coreB n y ++ (varN (hashN recLbl (coreB n y)) ++ t)) := by
    unfold frameB rawW; simp only [List.append_assoc]
  have hL : (rU 0 0 ((frameB n y ++ t).take 10)).1 = (coreB n y).length := by
    rw [hF, List.take_append, List.take_of_length_le (by omega), rU_varN0 _ (by omega)]
  have hlen : (frameB n y ++ t).length = (varN (coreB n y).length).length + ((coreB n y).length + ((varN (hashN recLbl (coreB n y))).length + t.length)) := by
    rw [hF]; simp only [List.length_append]
  have hcut : (varN (coreB n y).length).length + (coreB n y).length ≤ cutN (frameB n y ++ t) := by
    unfold cutN; rw [hL]; omega
  obtain ⟨m, hm⟩ := Nat.exists_eq_add_of_le hcut
  have ht : (frameB n y ++ t).take (cutN (frameB n y ++ t)) = rawW (coreB n y) ++ (varN (hashN recLbl (coreB n y)) ++ t).take m := by
    rw [hm, hF]
    unfold rawW
    rw [← List.append_assoc, List.take_append, List.take_of_length_le (by simp only [List.length_append]; omega)]
    congr 2
    simp only [List.length_append]; omega
  unfold recordB
  rw [ht, rRaw_rawW _ _ (by omega), innerB_coreB n y h1 h2 (by omega)]
/-- a frame is read -/
theorem scanP_frame (f i a : Nat) (y t : List Int) (hi : (i : Int) ≤ 9223372036854775807) (hy : y.length < 9223372036854775808) (hf : (frameB i y ++ t).length ≤ f) :
    scanP f i a (frameB i y ++ t) = (y, a + (frameB i y).length) :: scanP f (i + 1) (a + (frameB i y).length) t := by
  have hr := recordB_frame i y t (by omega) hi hy
  have hp := frameB_pos i y
  rw [scanP_hit hf (by intro e; have := congrArg List.length e; simp only [List.length_append, List.length_nil] at this; omega) (by rw [hr]; simp), hr]
  simp
theorem scanB_one (y : List Int) (hy : y.length < 9223372036854775808) : scanB (frameB 0 y) = [(y, (frameB 0 y).length)] := by
  have := scanP_frame (frameB 0 y).length 0 0 y [] (by omega) hy (by simp)
  unfold scanB
  rw [List.append_nil] at this
  rw [show ((0 : Nat) : Int) = 0 from rfl] at this
  rw [this, scanP_nil]
  simp
/-- a frame with one byte turned behind its length is not read -/
theorem detect (y U V : List Int) (z z' : Int) (hy : Byt y) (hl : y.length ≤ 1099511627776) (hF : frameB 0 y = U ++ z :: V) (hp : (varN (coreB 0 y).length).length ≤ U.length) (hz : z ≠ z') (hb : Byt (U ++ z' :: V)) :
    scanB (U ++ z' :: V) = [] := by
  have hcl := coreB_length 0 y (by omega) (by omega) (by omega)
  unfold scanB
  refine scanP_miss fun hm => ?_
  obtain ⟨x, hx⟩ : ∃ x, x = recordB (U ++ z' :: V) := ⟨_, rfl⟩
  rw [← hx] at hm
  have hxl : x.length ≤ (U ++ z' :: V).length := by rw [hx]; exact recordB_len _
  have hFl : (U ++ z' :: V).length = (frameB 0 y).length := by rw [hF]; simp
  have hfl := frameB_length 0 y (by omega) (by omega) (by omega)
  have hcx := coreB_length 0 x (by omega) (by omega) (by omega)
  -- the bytes at hand, as two frames would have them
  obtain ⟨c, hc⟩ : ∃ c, c = coreB 0 y := ⟨_, rfl⟩
  obtain ⟨c', hc'⟩ : ∃ c', c' = coreB 0 x := ⟨_, rfl⟩
  obtain ⟨h, hh⟩ : ∃ h, h = hashN recLbl c := ⟨_, rfl⟩
  obtain ⟨h', hh'⟩ : ∃ h', h' = hashN recLbl c' := ⟨_, rfl⟩
  have hlt := hashN_lt recLbl c
  have hlt' := hashN_lt recLbl c'
  rw [← hh] at hlt
  rw [← hh'] at hlt'
  have eF : varN c.length ++ (c ++ varN h) = U ++ z :: V := by
    rw [← hF, hh, hc]; unfold frameB rawW; simp only [List.append_assoc]
  rw [← hc] at hp hcl
  obtain ⟨U', hU⟩ : ∃ U', U = varN c.length ++ U' := by
    refine ⟨U.drop (varN c.length).length, ?_⟩
    have h1 := congrArg (fun l => l.take (varN c.length).length) eF
    simp only [List.take_left'] at h1
    rw [List.take_append_of_le_length hp] at h1
    conv => lhs; rw [← List.take_append_drop (varN c.length).length U]
    rw [← h1]
  subst hU
  rw [List.append_assoc] at eF
  have eF' : c ++ varN h = U' ++ z :: V := List.append_cancel_left eF
  obtain ⟨t, ht⟩ : ∃ t, varN c.length ++ (U' ++ z' :: V) = varN c'.length ++ (c' ++ (varN h' ++ t)) := by
    have h1 := List.take_append_drop (frameB 0 x).length (varN c.length ++ U' ++ z' :: V)
    rw [show ((0 : Nat) : Int) = 0 from rfl] at hm
    rw [hm] at h1
    obtain ⟨T, hT⟩ : ∃ T, T = (varN c.length ++ U' ++ z' :: V).drop (frameB 0 x).length := ⟨_, rfl⟩
    rw [← hT] at h1
    have hfx : frameB 0 x = varN c'.length ++ (c' ++ varN h') := by rw [hh', hc']; unfold frameB rawW; simp only [List.append_assoc]
    rw [hfx] at h1
    exact ⟨T, by rw [← List.append_assoc, ← h1]; simp only [List.append_assoc]⟩
  have q1 := rU_varN0 c.length (by omega) (U' ++ z' :: V)
  rw [ht, rU_varN0 c'.length (by rw [hc']; omega)] at q1
  simp only [Prod.mk.injEq, and_true] at q1
  obtain ⟨q2, q3⟩ := q1
  by_cases hcase : U'.length < c.length
  · -- the byte lies in the core
    obtain ⟨V1, hc1, hV⟩ : ∃ V1, c = U' ++ z :: V1 ∧ V = V1 ++ varN h := by
      have h1 := congrArg (fun l => l.take U'.length) eF'
      have h2 := congrArg (fun l => l.drop U'.length) eF'
      simp only [List.take_left', List.drop_left'] at h1 h2
      rw [List.take_append_of_le_length (by omega)] at h1
      rw [List.drop_append_of_le_length (by omega)] at h2
      rw [List.drop_eq_getElem_cons hcase, List.cons_append] at h2
      injection h2 with h3 h4
      refine ⟨c.drop (U'.length + 1), ?_, h4.symm⟩
      conv => lhs; rw [← List.take_append_drop U'.length c]
      rw [h1, List.drop_eq_getElem_cons hcase, h3]
    have hc2 : c' = U' ++ z' :: V1 := by
      have h1 := congrArg (fun l => l.take c'.length) q3
      simp only [List.take_left'] at h1
      rw [h1, q2, hV, hc1]
      have : (U' ++ z :: V1).length = (U' ++ z' :: V1).length := by simp
      rw [this, ← List.cons_append, ← List.append_assoc]
      exact List.take_left' rfl
    have q0 : U' ++ z' :: V = (U' ++ z' :: V1) ++ varN h := by rw [hV]; simp
    rw [hc2, q0] at q3
    have q4 := List.append_cancel_left q3
    have q5 := rU_varN0 h hlt []
    rw [List.append_nil, ← q4, rU_varN0 h' hlt'] at q5
    simp only [Prod.mk.injEq] at q5
    have hcb : Byt c := by rw [hc]; exact coreB_byt hy
    refine hashB_ne recLbl U' V1 z z' (by rw [← hc1]; exact hcb) ?_ hz ?_
    · rw [← hc2, hc']
      exact coreB_byt (by rw [hx]; exact recordB_byt hb)
    · rw [← hc1, ← hc2, hashN_eq, hashN_eq, ← hh, ← hh', q5.1]
  · -- the byte lies in the hash
    have hcc : c' = c := by
      have h1 := congrArg (fun l => l.take c'.length) q3
      have h2 := congrArg (fun l => l.take c.length) eF'
      simp only [List.take_left'] at h1 h2
      rw [List.take_append_of_le_length (by omega)] at h1 h2
      rw [h1, h2, q2]
    obtain ⟨U2, hU2⟩ : ∃ U2, U' = c ++ U2 := by
      refine ⟨U'.drop c.length, ?_⟩
      have h2 := congrArg (fun l => l.take c.length) eF'
      simp only [List.take_left'] at h2
      rw [List.take_append_of_le_length (by omega)] at h2
      conv => lhs; rw [← List.take_append_drop c.length U']
      rw [← h2]
    rw [hU2, List.append_assoc] at eF'
    rw [hU2, hcc, List.append_assoc] at q3
    have e1 : varN h = U2 ++ z :: V := List.append_cancel_left eF'
    have e2 : varN h' ++ t = U2 ++ z' :: V := List.append_cancel_left q3
    have e3 : h' = h := by rw [hh, hh', hcc]
    have hlen1 := congrArg List.length e1
    have hlen2 := congrArg List.length e2
    rw [e3] at e2 hlen2
    simp only [List.length_append, List.length_cons] at hlen1 hlen2
    have ht0 : t = [] := List.eq_nil_of_length_eq_zero (by omega)
    rw [ht0, List.append_nil, e1] at e2
    have e4 := List.append_cancel_left e2
    injection e4 with e5
    exact hz e5

/-! ### the document's example -/
theorem core7 : coreB 0 [7] = [0, 1, 7] := by
  unfold coreB intW rawW
  rw [show zigN 0 = 0 from rfl, varN_small (by decide), varN_small (by decide)]
  rfl
theorem frame7 : frameB 0 [7] = rawW [0, 1, 7] ++ varN (hashN recLbl [0, 1, 7]) := by unfold frameB; rw [core7]
theorem raw3 : rawW [0, 1, 7] = [3, 0, 1, 7] := by
  unfold rawW
  rw [varN_small (by decide)]
  rfl
theorem frame7_len : 4 < (frameB 0 [7]).length := by
  rw [frame7, raw3, List.length_append]
  have := varN_pos (hashN recLbl [0, 1, 7])
  simp only [List.length_cons, List.length_nil]; omega
theorem rec3 : recordB [3, 0, 1] = [] := by
  have h1 : rU 0 0 [3, 0, 1] = (3, [0, 1], 0) := by decide
  have h2 : rRaw [3, 0, 1] = ([], [0, 1], 3) := by unfold rRaw; rw [h1]; decide
  have h3 : cutN [3, 0, 1] = 3 := by
    unfold cutN; rw [show ([3, 0, 1] : List Int).take 10 = [3, 0, 1] from rfl, h1]; decide
  unfold recordB
  rw [h3, show ([3, 0, 1] : List Int).take 3 = [3, 0, 1] from rfl, h2]
  decide
theorem scan7 : scanB (frameB 0 [7] ++ [3, 0, 1]) = [([7], (frameB 0 [7]).length)] := by
  have h := scanP_frame (frameB 0 [7] ++ [3, 0, 1]).length 0 0 [7] [3, 0, 1] (by omega) (by decide) (Nat.le_refl _)
  unfold scanB
  rw [show ((0 : Nat) : Int) = 0 from rfl] at h
  rw [h, scanP_miss, Nat.zero_add]
  rw [rec3]
  intro e
  have e1 := congrArg List.length e
  have hc : coreB ((0 + 1 : Nat) : Int) [] = [2, 0] := by
    unfold coreB intW rawW
    rw [show zigN ((0 + 1 : Nat) : Int) = 2 from rfl, varN_small (by decide), varN_small (by decide)]
    rfl
  have hl : 3 < (frameB ((0 + 1 : Nat) : Int) []).length := by
    unfold frameB
    rw [hc]
    unfold rawW
    rw [varN_small (by decide), List.length_append]
    have := varN_pos (hashN recLbl [2, 0])
    simp only [List.length_append, List.length_cons, List.length_nil]; omega
  rw [List.length_take] at e1
  simp only [List.length_cons, List.length_nil] at e1
  omega
end Go.Wm
