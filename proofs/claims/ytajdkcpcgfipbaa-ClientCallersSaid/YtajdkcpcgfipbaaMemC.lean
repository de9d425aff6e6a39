/- Lists of byte slices in memory. No program in sight. -/
import Derived.Test.YtajdkcpcgfipbaaMemB
namespace Go.Wm
open Go.RowKit

/-- what a slice of byte slices reads as -/
def RdL (w : World) (A : Option Addr) (xss : List (List Int)) : Prop :=
  xss = [] ∨ ∃ b off, A = some ⟨b, off, none⟩ ∧ b < w.heap.size ∧ ∀ j, j < xss.length → ∃ Aj cj, w.cell? ⟨b, off + j, none⟩ = some (.slice Aj (xss[j]?.getD []).length cj) ∧ (xss[j]?.getD []).length ≤ cj ∧ Rd .u8 w Aj (xss[j]?.getD [])
theorem RdL.below {n₀ : Nat} {w w' : World} {A : Option Addr} {xss : List (List Int)} (h : RdL w A xss) (hB : Below n₀ w w') (hn : w.heap.size ≤ n₀) : RdL w' A xss := by
  rcases h with h | ⟨b, off, e, hb, hc⟩
  · exact .inl h
  · refine .inr ⟨b, off, e, Nat.lt_of_lt_of_le hb hB.size, fun j hj => ?_⟩
    obtain ⟨Aj, cj, h1, h2, h3⟩ := hc j hj
    exact ⟨Aj, cj, (hB.cell (p := ⟨b, off + j, none⟩) (Nat.lt_of_lt_of_le hb hn)).trans h1, h2, h3.below hB hn⟩
theorem RdL.take {w : World} {A : Option Addr} {xss : List (List Int)} (h : RdL w A xss) (n : Nat) : RdL w A (xss.take n) := by
  rcases h with rfl | ⟨b, off, rfl, hb, hc⟩
  · exact .inl (by simp)
  · refine .inr ⟨b, off, rfl, hb, fun j hj => ?_⟩
    have hj' : j < n ∧ j < xss.length := by simpa [Nat.lt_min] using hj
    rw [List.getElem?_take, if_pos hj'.1]
    exact hc j hj'.2
/-- a slice of byte slices of the call's own -/
def OwL (w : World) (base eS e : Nat) (v : Value) (ys : List (Value × List Int)) : Prop :=
  w.ownsRow base eS 1 v ys.length (ys.map fun t => t.1) ∧ ∀ t ∈ ys, ∃ b', w.ownsRow b' e 1 t.1 t.2.length (t.2.map (.int .u8))
theorem RdL.of_own {w : World} {base eS e n c : Nat} {A : Option Addr} {ys : List (Value × List Int)} (h : OwL w base eS e (.slice A n c) ys) : RdL w A (ys.map fun t => t.2) := by
  obtain ⟨ho, hin⟩ := h
  by_cases hx : ys = []
  · exact .inl (by simp [hx])
  · rcases ho.2 with ⟨e1, e2⟩ | ⟨g, cap, cur, e1, hb, hg, h1, h2, h3, h4⟩
    · exact absurd (List.eq_nil_of_length_eq_zero e2) hx
    · cases e1
      refine .inr ⟨g, 0, rfl, (Array.getElem?_eq_some_iff.1 hg).1, fun j hj => ?_⟩
      have hj' : j < ys.length := by simpa using hj
      have hcell := ho.cells (g := g) rfl j ys[j].1 (by rw [List.getElem?_map, List.getElem?_eq_getElem hj']; rfl)
      rw [show ((⟨g, 0, none⟩ : Addr).add j) = ⟨g, j, none⟩ from by unfold Addr.add; split <;> simp_all] at hcell
      obtain ⟨b', hr⟩ := hin ys[j] (List.getElem_mem hj')
      obtain ⟨Aj, cj, ev⟩ := own_slice' hr
      have e2 : (ys.map fun t => t.2)[j]?.getD [] = ys[j].2 := by rw [List.getElem?_map, List.getElem?_eq_getElem hj']; rfl
      rw [e2, Nat.zero_add]
      rw [ev] at hr hcell
      exact ⟨Aj, cj, hcell, own_cap hr, Rd.of_own hr⟩
theorem OwL.rd {w : World} {base eS e : Nat} {v : Value} {ys : List (Value × List Int)} (h : OwL w base eS e v ys) : ∃ A c, v = .slice A ys.length c ∧ RdL w A (ys.map fun t => t.2) ∧ ys.length ≤ c := by
  obtain ⟨A, c, rfl⟩ := own_slice' h.1
  exact ⟨A, c, rfl, RdL.of_own h, own_cap h.1⟩
end Go.Wm
