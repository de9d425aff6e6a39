/- Memory: one element of an owned row is set; a slice that came in from outside, as a list of bytes. -/
import Derived.Test.YtajdkcpcgfipbaaMemD
namespace Go.Wm
open Go.RowKit
theorem own_set {w : World} {base e n : Nat} {A : Option Addr} {c : Nat} {xs : List Value} (h : w.ownsRow base e 1 (.slice A n c) n xs) {i : Nat} (hi : i < n) (u : Value) :
    ∃ b, A = some ⟨b, 0, none⟩ ∧ base ≤ b ∧ b < w.heap.size ∧ w.cell? ⟨b, i, none⟩ = xs[i]? ∧ w.frozen? ⟨b, i, none⟩ = false ∧ (w.setCell ⟨b, i, none⟩ u).ownsRow base e 1 (.slice A n c) n (xs.set i u) := by
  obtain ⟨hx, ⟨h1, h2⟩ | ⟨g, cap, cur, h1, hb, hg, hn, hm, hs, ht⟩⟩ := h
  · omega
  · cases h1
    rw [Nat.mul_one] at ht hs hx
    have hgl : g < w.heap.size := (Array.getElem?_eq_some_iff.1 hg).1
    refine ⟨g, rfl, hb, hgl, ?_, ?_, ?_, .inr ⟨g, c, cur.set! i u, rfl, hb, ?_, hn, hm, ?_, ?_⟩⟩
    · rw [← ht, List.getElem?_take]; simp [World.cell?, hg, hi]
    · simp [World.frozen?, hg]
    · rw [List.length_set, Nat.mul_one]; exact hx
    · simp [World.setCell, Array.getElem?_modify, hg]
    · simp [hs]
    · rw [Nat.mul_one, ← ht]; simp [List.take_set]
theorem rd_of_row {k : IntKind} {w : World} {a : Option Addr} {len cap : Nat} {zs : List Int}
    (h : (a = none ∧ len = 0 ∧ cap = 0 ∧ zs = []) ∨ ∃ x, a = some x ∧ len ≤ cap ∧ cap ≤ maxLen ∧ zs.length = cap ∧ (∀ i, i < zs.length → w.cell? (x.add i) = some (.int k (zs.getD i 0))) ∧ ∀ n ∈ zs, (Lit.int k n).wf = true) :
    ∃ xs : List Int, xs.length = len ∧ len ≤ cap ∧ cap ≤ 9223372036854775807 ∧ Rd k w a xs ∧ ∀ n ∈ xs, (Lit.int k n).wf = true := by
  rcases h with ⟨rfl, rfl, rfl, rfl⟩ | ⟨x, rfl, h1, h2, h3, h4, h5⟩
  · exact ⟨[], rfl, Nat.le_refl _, by omega, .inl rfl, by simp⟩
  · refine ⟨zs.take len, by rw [List.length_take]; omega, h1, by unfold maxLen at h2; omega, ?_, fun n hn => h5 n (List.mem_of_mem_take hn)⟩
    by_cases h0 : len = 0
    · subst h0; exact .inl (by simp)
    · obtain ⟨b, off, spot⟩ := x
      have hc := h4 0 (by omega)
      have hspot : spot = none := by simpa [Addr.add] using World.cell?_spot hc
      subst hspot
      refine .inr ⟨b, off, rfl, ?_, fun j hj => ?_⟩
      · cases hq : w.heap[b]? with
        | none => simp [World.cell?, Addr.add, hq] at hc
        | some o => exact (Array.getElem?_eq_some_iff.1 hq).1
      · rw [List.length_take] at hj
        have := h4 j (by omega)
        have e1 : (⟨b, off, none⟩ : Addr).add j = ⟨b, off + j, none⟩ := by
          unfold Addr.add
          by_cases hj0 : j = 0
          · subst hj0; rfl
          · simp [hj0]
        rw [e1] at this
        rw [this, List.getElem?_take, if_pos (by omega)]
        simp [List.getD]
theorem i64_of_wf {n : Int} (h : (Lit.int .i64 n).wf = true) : -9223372036854775808 ≤ n ∧ n ≤ 9223372036854775807 := by
  have e1 : IntKind.i64.min = -9223372036854775808 := by decide
  have e2 : IntKind.i64.max = 9223372036854775807 := by decide
  simp only [Lit.wf, e1, e2, Bool.and_eq_true, decide_eq_true_eq] at h
  exact h
theorem byt_of_wf {xs : List Int} (h : ∀ n ∈ xs, (Lit.int .u8 n).wf = true) : Byt xs := by
  intro n hn
  have := h n hn
  have e1 : IntKind.u8.min = 0 := by decide
  have e2 : IntKind.u8.max = 255 := by decide
  simp only [Lit.wf, e1, e2, Bool.and_eq_true, decide_eq_true_eq] at this
  omega
end Go.Wm
