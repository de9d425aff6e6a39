/- Plain lists: the frames of some records one behind another are read back; every scan's records are short and end in order. -/
import Derived.Test.YtajdkcpcgfipbaaPureF
namespace Go.Wm
open Go.RowKit

/-- some records one behind another, each written by f at its number -/
def framesG (f : Nat → List Int → List Int) (i : Nat) : List (List Int) → List Int
  | [] => []
  | x :: xs => f i x ++ framesG f (i + 1) xs
theorem framesG_snoc (f : Nat → List Int → List Int) (x : List Int) : ∀ (xss : List (List Int)) (i : Nat), framesG f i (xss ++ [x]) = framesG f i xss ++ f (i + xss.length) x
  | [], i => by simp [framesG]
  | y :: xss, i => by
    have e : i + 1 + xss.length = i + (y :: xss).length := by rw [List.length_cons]; omega
    rw [List.cons_append, framesG, framesG, framesG_snoc f x xss (i + 1), List.append_assoc, e]
/-- the frames of some records, from number i on -/
def framesB (i : Nat) (xss : List (List Int)) : List Int := framesG (fun (i : Nat) x => frameB i x) i xss
theorem framesB_nil (i : Nat) : framesB i [] = [] := rfl
theorem framesB_cons (i : Nat) (x : List Int) (xss : List (List Int)) : framesB i (x :: xss) = frameB i x ++ framesB (i + 1) xss := rfl
theorem framesB_snoc (xss : List (List Int)) (i : Nat) (x : List Int) : framesB i (xss ++ [x]) = framesB i xss ++ frameB ((i + xss.length : Nat) : Int) x := framesG_snoc _ x xss i
theorem framesB_byt : ∀ (xss : List (List Int)) (i : Nat), (∀ x ∈ xss, Byt x) → Byt (framesB i xss)
  | [], _, _ => Byt.nil
  | x :: xss, i, h => (frameB_byt (h x List.mem_cons_self)).append (framesB_byt xss (i + 1) fun y hy => h y (List.mem_cons_of_mem _ hy))
theorem framesB_length : ∀ (xss : List (List Int)) (i : Nat), (∀ x ∈ xss, x.length ≤ 200) → i + xss.length ≤ 1000000 → (framesB i xss).length ≤ 240 * xss.length
  | [], _, _, _ => by simp [framesB_nil]
  | x :: xss, i, h, hi => by
    rw [framesB_cons, List.length_append, List.length_cons]
    rw [List.length_cons] at hi
    have h1 := frameB_length i x (by omega) (by omega) (by have := h x List.mem_cons_self; omega)
    have h2 := framesB_length xss (i + 1) (fun y hy => h y (List.mem_cons_of_mem _ hy)) (by omega)
    have := h x List.mem_cons_self
    omega
theorem scanP_frames : ∀ (xss : List (List Int)) (f i a : Nat) (t : List Int), (framesB i xss ++ t).length ≤ f → (∀ x ∈ xss, x.length ≤ 200) → i + xss.length ≤ 1000000 →
    ∃ zs, scanP f i a (framesB i xss ++ t) = zs ++ scanP f (i + xss.length) (a + (framesB i xss).length) t ∧ (zs.map fun q => q.1) = xss ∧ (xss ≠ [] → (zs.getLast?.map fun q => q.2).getD 0 = a + (framesB i xss).length)
  | [], f, i, a, t, _, _, _ => ⟨[], by simp [framesB_nil], rfl, by simp⟩
  | x :: xss, f, i, a, t, hf, h, hi => by
    rw [framesB_cons, List.append_assoc] at hf
    rw [List.length_cons] at hi
    have hx := h x List.mem_cons_self
    have hfl := frameB_pos i x
    have e := scanP_frame f i a x (framesB (i + 1) xss ++ t) (by omega) (by omega) hf
    obtain ⟨zs, q1, q2, q3⟩ := scanP_frames xss f (i + 1) (a + (frameB i x).length) t (by simp only [List.length_append] at hf ⊢; omega) (fun y hy => h y (List.mem_cons_of_mem _ hy)) (by omega)
    refine ⟨(x, a + (frameB i x).length) :: zs, ?_, ?_, ?_⟩
    · have e1 : i + 1 + xss.length = i + (x :: xss).length := by rw [List.length_cons]; omega
      have e2 : a + (frameB i x).length + (framesB (i + 1) xss).length = a + (frameB i x ++ framesB (i + 1) xss).length := by rw [List.length_append]; omega
      rw [framesB_cons, List.append_assoc, e, q1, List.cons_append, e1, e2]
    · rw [List.map_cons, q2]
    · intro _
      rw [framesB_cons, List.length_append]
      by_cases hx0 : xss = []
      · subst hx0
        have : zs = [] := by simpa using q2
        subst this
        simp [framesB_nil]
      · have hz : zs ≠ [] := fun e => hx0 (by rw [← q2, e]; rfl)
        rw [List.getLast?_cons_of_ne_nil hz, q3 hx0]
        omega
theorem scanP_ge : ∀ (f i a : Nat) (b : List Int), ∀ t ∈ scanP f i a b, a ≤ t.2 ∧ t.1.length ≤ b.length
  | 0, _, _, _, t, h => by simp [scanP] at h
  | f + 1, i, a, b, t, h => by
    rw [scanP] at h
    split at h
    · simp at h
    · split at h
      · rcases List.mem_cons.1 h with rfl | h
        · exact ⟨by simp, recordB_len b⟩
        · obtain ⟨q1, q2⟩ := scanP_ge f _ _ _ t h
          rw [List.length_drop] at q2
          exact ⟨by omega, by omega⟩
      · simp at h
theorem scanP_count : ∀ (f i a : Nat) (b : List Int), (scanP f i a b).length ≤ b.length
  | 0, _, _, _ => by simp [scanP]
  | f + 1, i, a, b => by
    rw [scanP]
    split
    · simp
    · split
      · have hp := frameB_pos i (recordB b)
        have hl : (frameB i (recordB b)).length ≤ b.length := by
          rename_i h
          have := congrArg List.length h
          rw [List.length_take] at this; omega
        have := scanP_count f (i + 1) (a + (frameB i (recordB b)).length) (b.drop (frameB i (recordB b)).length)
        rw [List.length_drop] at this
        rw [List.length_cons]; omega
      · simp
/-- where the last record ends -/
def endOf (zs : List (List Int × Nat)) : Nat := (zs.getLast?.map fun t => t.2).getD 0
theorem endOf_snoc (zs : List (List Int × Nat)) (t : List Int × Nat) : endOf (zs ++ [t]) = t.2 := by simp [endOf]
/-- the records that were laid down are the first ones that are read -/
theorem scanB_frames (xss : List (List Int)) (t : List Int) (h : ∀ x ∈ xss, x.length ≤ 200) (hi : xss.length ≤ 1000000) (hne : xss ≠ []) :
    ((scanB (framesB 0 xss ++ t)).map fun q => q.1).take xss.length = xss ∧ (framesB 0 xss).length ≤ endOf (scanB (framesB 0 xss ++ t)) ∧ xss.length ≤ (scanB (framesB 0 xss ++ t)).length := by
  obtain ⟨zs, q1, q2, q3⟩ := scanP_frames xss (framesB 0 xss ++ t).length 0 0 t (Nat.le_refl _) h (by omega)
  have hl : zs.length = xss.length := by rw [← q2, List.length_map]
  rw [Nat.zero_add, Nat.zero_add] at q1
  rw [Nat.zero_add] at q3
  unfold scanB
  rw [q1]
  refine ⟨?_, ?_, by rw [List.length_append]; omega⟩
  · rw [List.map_append, q2, List.take_append_of_le_length (Nat.le_refl _), List.take_length]
  · obtain ⟨tl, htl⟩ : ∃ tl, tl = scanP (framesB 0 xss ++ t).length xss.length (framesB 0 xss).length t := ⟨_, rfl⟩
    rw [← htl]
    unfold endOf
    by_cases h0 : tl = []
    · rw [h0, List.append_nil, q3 hne]; exact Nat.le_refl _
    · rw [List.getLast?_append, List.getLast?_eq_some_getLast h0, Option.some_or, Option.map_some, Option.getD_some]
      have := scanP_ge _ _ _ _ (tl.getLast h0) (by rw [← htl]; exact List.getLast_mem h0)
      exact this.1
end Go.Wm
