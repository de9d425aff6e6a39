/- A row of byte slices that read as lists and lie below a bound. No program in sight. -/
import Derived.Test.YtajdkcpcgfipbaaMemF
namespace Go.Wm
open Go.RowKit

/-- an element: a slice that reads as bytes, and lies below block B -/
def El (B : Nat) (w : World) (t : Value × List Int) : Prop :=
  ∃ A c, t.1 = .slice A t.2.length c ∧ t.2.length ≤ c ∧ Rd .u8 w A t.2 ∧ (t.2 = [] ∨ ∀ a, A = some a → a.block < B)
theorem El.kp {S : Nat → Prop} {B : Nat} {w w' : World} {t : Value × List Int} (h : El B w t) (k : Kp S w w') (hS : ∀ b, b < B → ¬ S b) : El B w' t := by
  obtain ⟨A, c, h1, h2, h3, h4⟩ := h
  refine ⟨A, c, h1, h2, ?_, h4⟩
  rcases h4 with h4 | h4
  · exact .inl h4
  · exact h3.kp k (fun a ea => hS _ (h4 a ea))
theorem RdL.of_el {B base eS n c : Nat} {w : World} {A : Option Addr} {ys : List (Value × List Int)} (ho : w.ownsRow base eS 1 (.slice A n c) n (ys.map fun t => t.1)) (hin : ∀ t ∈ ys, El B w t) : RdL w A (ys.map fun t => t.2) := by
  by_cases hx : ys = []
  · exact .inl (by simp [hx])
  · rcases ho.2 with ⟨e1, e2⟩ | ⟨g, cap, cur, e1, hb, hg, h1, h2, h3, h4⟩
    · have := ho.1
      rw [e2] at this
      exact absurd (List.eq_nil_of_length_eq_zero (by simpa using this)) hx
    · cases e1
      refine .inr ⟨g, 0, rfl, (Array.getElem?_eq_some_iff.1 hg).1, fun j hj => ?_⟩
      have hj' : j < ys.length := by simpa using hj
      have hcell := ho.cells (g := g) rfl j ys[j].1 (by rw [List.getElem?_map, List.getElem?_eq_getElem hj']; rfl)
      rw [show ((⟨g, 0, none⟩ : Addr).add j) = ⟨g, j, none⟩ from by unfold Addr.add; split <;> simp_all] at hcell
      obtain ⟨Aj, cj, e3, h5, h6, _⟩ := hin ys[j] (List.getElem_mem hj')
      have e2 : (ys.map fun t => t.2)[j]?.getD [] = ys[j].2 := by rw [List.getElem?_map, List.getElem?_eq_getElem hj']; rfl
      rw [e2, Nat.zero_add]
      rw [e3] at hcell
      exact ⟨Aj, cj, hcell, h5, h6⟩
theorem own_ne {w : World} {base base' e eS size size' n n' : Nat} {v v' : Value} {xs xs' : List Value} (h : w.ownsRow base e size v n xs) (h' : w.ownsRow base' eS size' v' n' xs') (hne : e ≠ eS) : ∀ b, v.ownBlock = some b → ¬ some b = v'.ownBlock := by
  intro b hb e'
  rcases h.2 with ⟨rfl, _⟩ | ⟨g, cap, cur, rfl, _, hg, _⟩
  · simp [Value.ownBlock] at hb
  · rcases h'.2 with ⟨rfl, _⟩ | ⟨g', cap', cur', rfl, _, hg', _⟩
    · simp [Value.ownBlock] at e'
    · obtain rfl : g = b := by simpa [Value.ownBlock] using hb
      obtain rfl : g = g' := by simpa [Value.ownBlock] using e'
      rw [hg] at hg'
      cases hg'
      exact hne rfl
theorem OwL.kpF {w w' : World} {base eS e : Nat} {v : Value} {ys : List (Value × List Int)} (h : OwL w base eS e v ys) (k : Kp (fun _ => False) w w') : OwL w' base eS e v ys :=
  ⟨own_kp h.1 k (fun _ _ e => e), fun t ht => by obtain ⟨b', h'⟩ := h.2 t ht; exact ⟨b', own_kp h' k (fun _ _ e => e)⟩⟩
theorem OwL.snoc {w w' : World} {base eS e : Nat} {v v' x : Value} {ys : List (Value × List Int)} (h : OwL w base eS e v ys) (hne : e ≠ eS) (k : Kp (fun k => some k = v.ownBlock) w w') (ho : w'.ownsRow base eS 1 v' (ys.length + 1) ((ys.map fun t => t.1) ++ [x]))
    {b' : Nat} {y : List Int} (hx : w.ownsRow b' e 1 x y.length (y.map (.int .u8))) : OwL w' base eS e v' (ys ++ [(x, y)]) := by
  refine ⟨?_, fun t ht => ?_⟩
  · rw [List.length_append, List.map_append]; exact ho
  · rcases List.mem_append.1 ht with ht | ht
    · obtain ⟨b, h'⟩ := h.2 t ht
      exact ⟨b, own_kp h' k (own_ne h' h.1 hne)⟩
    · rw [List.mem_singleton.1 ht]
      exact ⟨b', own_kp hx k (own_ne hx h.1 hne)⟩
end Go.Wm
