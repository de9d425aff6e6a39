/- ClientCallers: the bounds of a caller. -/
import Derived.Test.YtajdkcpcgfipbaaCalH
namespace Go.Proofs.Ytajdkcpcgfipbaa
open Go.RowKit Go.Wm

def CalOk (st : Cal) (N : Int) : Prop := st.l.length ≤ 16 ∧ (∀ r ∈ st.l, r.b.length ≤ 65536) ∧ 0 ≤ st.many ∧ st.many ≤ N
theorem CalOk.new (c key : Int) : CalOk ⟨c, key, 0, []⟩ 0 := ⟨by simp, by simp, by simp, by simp⟩
theorem CalOk.up {st : Cal} {N M : Int} (h : CalOk st N) (hm : N ≤ M) : CalOk st M := ⟨h.1, h.2.1, h.2.2.1, Int.le_trans h.2.2.2 hm⟩
theorem CalOk.send {st : Cal} {N : Int} (h : CalOk st N) {b : List Int} (hf : sendFull st b = false) : CalOk (sendS st b) (N + 1) := by
  obtain ⟨h1, h2, h3, h4⟩ := h
  have hf' : ¬ (65536 < b.length ∨ 16 ≤ st.l.length) := by simpa [sendFull] using hf
  refine ⟨?_, ?_, ?_, ?_⟩
  · simp only [sendS, List.length_append, List.length_cons, List.length_nil]; omega
  · intro r hr
    simp only [sendS, List.mem_append, List.mem_singleton] at hr
    rcases hr with hr | hr
    · exact h2 r hr
    · subst hr; show b.length ≤ _; omega
  · simp only [sendS]; omega
  · simp only [sendS]; omega
theorem CalOk.got {st : Cal} {N : Int} (h : CalOk st N) (num : Int) (n : Nat) : CalOk (gotS st num n) N := by
  obtain ⟨h1, h2, h3, h4⟩ := h
  unfold gotS
  split
  · refine ⟨?_, fun r hr => h2 r (List.mem_of_mem_eraseIdx hr), h3, h4⟩
    have := List.length_eraseIdx_le st.l (idxI num st.l).toNat
    show (st.l.eraseIdx _).length ≤ 16
    omega
  · exact ⟨h1, h2, h3, h4⟩
end Go.Proofs.Ytajdkcpcgfipbaa
