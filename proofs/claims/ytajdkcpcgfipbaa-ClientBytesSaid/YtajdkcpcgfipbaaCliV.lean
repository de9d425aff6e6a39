/- Package client: Decode. -/
import Derived.Test.YtajdkcpcgfipbaaCliU
import Derived.Test.YtajdkcpcgfipbaaPureH
namespace Go.Proofs.Ytajdkcpcgfipbaa
open Go.RowKit Go.Wm

/-- what Decode reads, and how the reader stands behind it -/
def decX (bs : List Int) : Rq × (List Int × Int) :=
  let s1 := rIntE (bs, 0)
  let s2 := rIntE s1.2
  let s3 := rRawE s2.2
  let s4 := rUE s3.2
  (⟨s1.1, s2.1, s3.1, s4.1⟩, s4.2)
def endE (s : List Int × Int) : Int := if s.2 = 0 ∧ 0 < s.1.length then 2 else s.2
/-- is it the encoding of what was read? -/
def decOk (bs : List Int) : Bool := decide (endE (decX bs).2 = 0) && decide (encB (decX bs).1 = bs)
theorem rIntE_i64 {s : List Int × Int} (h : Byt s.1) : I64 (rIntE s).1 := by
  unfold rIntE; split
  · exact (i64_iff _).2 (unzI_range _ (rU_lt h (k := 0) (acc := 0) (by omega) (by simp)))
  · exact (i64_iff _).2 (unzI_range 0 (by omega))
theorem dec_enc (r : Rq) (hc : I64 r.c) (hn : I64 r.n) (ht : 0 ≤ r.t ∧ r.t < 18446744073709551616) (hl : r.b.length ≤ 1099511627776) : decX (encB r) = (r, ([], 0)) := by
  have h1 := (i64_iff _).1 hc
  have h2 := (i64_iff _).1 hn
  have e1 : rIntE (encB r, 0) = (r.c, (intW r.n ++ (rawW r.b ++ varN r.t.toNat), 0)) := by
    unfold rIntE encB intW
    rw [if_pos rfl, List.append_assoc, List.append_assoc]
    simp only [rU_varN0 _ (zigN_lt r.c h1.1 h1.2), unz_zig r.c h1.1 h1.2]
  have e2 : rIntE (intW r.n ++ (rawW r.b ++ varN r.t.toNat), 0) = (r.n, (rawW r.b ++ varN r.t.toNat, 0)) := by
    unfold rIntE intW
    rw [if_pos rfl]
    simp only [rU_varN0 _ (zigN_lt r.n h2.1 h2.2), unz_zig r.n h2.1 h2.2]
  have e3 : rRawE (rawW r.b ++ varN r.t.toNat, 0) = (r.b, (varN r.t.toNat, 0)) := by
    unfold rRawE
    rw [if_pos rfl]
    simp only [rRaw_rawW r.b _ (by omega)]
  have e4 : rUE (varN r.t.toNat, 0) = (r.t, ([], 0)) := by
    have := rU_varN0 r.t.toNat (by omega) []
    rw [List.append_nil] at this
    unfold rUE
    rw [if_pos rfl]
    simp only [this, Int.toNat_of_nonneg ht.1]
  unfold decX
  simp only [e1, e2, e3, e4]
theorem decOk_enc (r : Rq) (hc : I64 r.c) (hn : I64 r.n) (ht : 0 ≤ r.t ∧ r.t < 18446744073709551616) (hl : r.b.length ≤ 1099511627776) : decOk (encB r) = true := by
  unfold decOk; rw [dec_enc r hc hn ht hl]; simp [endE]
theorem decX_wf {bs : List Int} (hb : Byt bs) : I64 (decX bs).1.c ∧ I64 (decX bs).1.n ∧ Byt (decX bs).1.b ∧ (decX bs).1.b.length ≤ bs.length ∧ (0 ≤ (decX bs).1.t ∧ (decX bs).1.t < 18446744073709551616) ∧ (decX bs).2.1.length ≤ bs.length := by
  have b1 := rIntE_byt (s := (bs, 0)) hb
  have b2 := rIntE_byt b1.1
  have b3 := rRawE_byt b2.1
  have b4 := rUE_byt b3.1
  have l1 : (rIntE (bs, 0)).2.1.length ≤ bs.length := b1.2
  refine ⟨rIntE_i64 hb, rIntE_i64 b1.1, b3.2.2.1, ?_, b4.2, ?_⟩
  · show (rRawE _).1.length ≤ _; have := b3.2.2.2; have := b2.2; omega
  · show (rUE _).2.1.length ≤ _; have := b4.1; have := b3.2.1; have := b2.2; omega
end Go.Proofs.Ytajdkcpcgfipbaa
