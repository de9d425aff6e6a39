/- A request that was changed on the way has a wrong tag. -/
import Derived.Test.YtajdkcpcgfipbaaCliK
namespace Go.Proofs.Ytajdkcpcgfipbaa
open Go.RowKit Go.Wm

theorem u64_inj {a b : Int} (ha : I64 a) (hb : I64 b) (h : u64 a = u64 b) : a = b := by
  have := (i64_iff a).1 ha
  have := (i64_iff b).1 hb
  unfold u64 at h
  rw [IntKind.wrap_u64, IntKind.wrap_u64] at h
  omega
theorem i64_wrap (x : Int) : I64 (wrap64 x) := (i64_iff _).2 (by unfold wrap64; omega)
theorem xor8_range (z v : Int) (hz : 0 ≤ z ∧ z < 256) (hv : 0 ≤ v ∧ v < 256) : 0 ≤ bits .xor .u8 z v ∧ bits .xor .u8 z v < 256 := by
  obtain ⟨a, rfl⟩ := Int.eq_ofNat_of_zero_le hz.1
  obtain ⟨b, rfl⟩ := Int.eq_ofNat_of_zero_le hv.1
  rw [u8_xor_nat a b (by omega) (by omega)]
  have : a ^^^ b < 2 ^ 8 := Nat.xor_lt_two_pow (by omega) (by omega)
  omega
theorem chgB_byt {b : List Int} (hb : Byt b) (y : Int) : Byt (chgB b y) := by
  unfold chgB
  split
  · exact Byt.nil
  · intro x hx
    rcases List.mem_or_eq_of_mem_set hx with h | rfl
    · exact hb x h
    · exact xor8_range _ _ (hb.get _) ⟨by omega, by omega⟩
theorem chgB_length (b : List Int) (y : Int) : (chgB b y).length = b.length := by
  unfold chgB; split
  · simp_all
  · simp
theorem chgB_hash {b : List Int} (hb : Byt b) (y : Int) (h : chgB b y ≠ b) : hashB bodyLbl (chgB b y) ≠ hashB bodyLbl b := by
  have hb' := chgB_byt hb y
  by_cases hne : b = []
  · exact absurd (by simp [chgB, hne]) h
  have hp := List.length_pos_iff.2 hne
  obtain ⟨q0, q1⟩ := aroundI_range y (b.length : Int) (by omega)
  obtain ⟨k, hk⟩ := Int.eq_ofNat_of_zero_le q0
  have hkl : k < b.length := by omega
  obtain ⟨nb, hnb⟩ : ∃ nb, chgB b y = b.set k nb := ⟨_, by unfold chgB; rw [if_neg hne, hk, Int.toNat_natCast]⟩
  rw [hnb] at h hb' ⊢
  have e1 : b = b.take k ++ b[k] :: b.drop (k + 1) := by rw [← List.drop_eq_getElem_cons hkl, List.take_append_drop]
  have e2 : b.set k nb = b.take k ++ nb :: b.drop (k + 1) := by rw [List.set_eq_take_append_cons_drop, if_pos hkl]
  rw [e2] at h hb' ⊢
  have hx : nb ≠ b[k] := by
    intro e
    apply h
    rw [e]; exact e1.symm
  have := hashB_ne bodyLbl (b.take k) (b.drop (k + 1)) nb b[k] hb' (by rw [← e1]; exact hb) hx
  rw [← e1] at this
  exact this
theorem chg_tag (key : Int) (r : Rq) (which y : Int) (ht : r.t = tagI key r.c r.n r.b) (hc : I64 r.c) (hn : I64 r.n) (hb : Byt r.b) (h : sameRq (chg r which y) r = false) : tagI key (chg r which y).c (chg r which y).n (chg r which y).b ≠ (chg r which y).t := by
  have hs : ¬ ((chg r which y).c = r.c ∧ (chg r which y).n = r.n ∧ (chg r which y).t = r.t ∧ (chg r which y).b = r.b) := by
    rw [← sameRq_iff, h]; decide
  unfold chg at hs ⊢
  split
  · rename_i h0
    rw [if_pos h0] at hs
    have hne : wrap64 (r.c + y) ≠ r.c := fun e => hs ⟨e, rfl, rfl, rfl⟩
    show tagI key (wrap64 (r.c + y)) r.n r.b ≠ r.t
    rw [ht]
    exact sumI_ne tagLbl [wrap64 key] [r.n, _] _ _ (fun e => hne (u64_inj (i64_wrap _) hc e))
  · rename_i h0
    rw [if_neg h0] at hs
    split
    · rename_i h1
      rw [if_pos h1] at hs
      have hne : wrap64 (r.n + y) ≠ r.n := fun e => hs ⟨rfl, e, rfl, rfl⟩
      show tagI key r.c (wrap64 (r.n + y)) r.b ≠ r.t
      rw [ht]
      exact sumI_ne tagLbl [wrap64 key, r.c] [_] _ _ (fun e => hne (u64_inj (i64_wrap _) hn e))
    · rename_i h1
      rw [if_neg h1] at hs
      split
      · rename_i h2
        rw [if_pos h2] at hs
        intro e
        exact hs ⟨rfl, rfl, by rw [← e]; exact ht.symm, rfl⟩
      · rename_i h2
        rw [if_neg h2] at hs
        have hne : chgB r.b y ≠ r.b := fun e => hs ⟨rfl, rfl, rfl, e⟩
        have hh := chgB_hash hb y hne
        show tagI key r.c r.n (chgB r.b y) ≠ r.t
        rw [ht]
        have h1 := hashB_range bodyLbl (chgB r.b y)
        have h2 := hashB_range bodyLbl r.b
        exact sumI_ne tagLbl [wrap64 key, r.c, r.n] [] _ _ (by rw [u64_wrap64 h1.1 h1.2, u64_wrap64 h2.1 h2.2]; exact hh)
theorem chg_i64 (r : Rq) (which y : Int) (hc : I64 r.c) (hn : I64 r.n) : I64 (chg r which y).c ∧ I64 (chg r which y).n := by
  unfold chg
  split
  · exact ⟨i64_wrap _, hn⟩
  · split
    · exact ⟨hc, i64_wrap _⟩
    · split <;> exact ⟨hc, hn⟩
theorem chg_b (r : Rq) (which y : Int) (hb : Byt r.b) : Byt (chg r which y).b ∧ (chg r which y).b.length = r.b.length := by
  unfold chg
  split
  · exact ⟨hb, rfl⟩
  · split
    · exact ⟨hb, rfl⟩
    · split
      · exact ⟨hb, rfl⟩
      · exact ⟨chgB_byt hb y, chgB_length _ _⟩
/-- a request with a wrong tag is not accepted -/
theorem acc_wrong (k key : Int) (x : Rq) (h : tagI key x.c x.n x.b ≠ x.t) : ∃ e, accR (fun y => if y = k then some ⟨key, 0, []⟩ else none) x = (false, [], e) ∧ e ≠ 0 := by
  unfold accR
  split
  · exact ⟨1, rfl, by decide⟩
  · by_cases e : x.c = k
    · refine ⟨20, ?_, by decide⟩
      simp only [e, if_true]
      rw [if_pos (by rw [← e]; exact h)]
    · exact ⟨7, by simp [e], by decide⟩
end Go.Proofs.Ytajdkcpcgfipbaa
