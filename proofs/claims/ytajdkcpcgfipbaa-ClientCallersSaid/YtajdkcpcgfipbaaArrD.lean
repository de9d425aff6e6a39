/- append of a list that may be empty. -/
import Derived.Test.YtajdkcpcgfipbaaArrC
namespace Go.Wm
open Go.RowKit

theorem run_append_zero {P : Program} (w : World) (t ty e : TypeId) (i : TypeInfo) (ht : P.underlying t = some (.slice e)) (hi : P.info? e = some i)
    (A X : Option Addr) (n c c2 : Nat) (hn : n ≤ c) : (Builtin.append_ #[t, t] ty #[.slice A n c, .slice X 0 c2]).run P w = .ok (.slice A n c) w := by
  have hf : ∀ a, (loadCells a 0).run P w = .ok #[] w := fun a => by simp [loadCells, loadCellsFrom]
  cases A <;> cases X <;> simp [Builtin.append_, run_underlying ht, sizeOf, typeInfo, hi, Builtin.lenOf, hn, Builtin.firstCells, hf, storeCells]
theorem run_append_low {P : Program} (w : World) (t ty e : TypeId) (i : TypeInfo) (z : Value) (size bytes : Nat) (ht : P.underlying t = some (.slice e)) (hi : P.info? e = some i) (hz : i.zero = some z)
    (hsize : i.size = size) (hby : i.bytes = bytes) (hzs : z.cells.size = size) (hsz : 0 < size) (B0 : Nat) (hB0 : B0 ≤ w.heap.size)
    (A : Option Addr) (n c : Nat) (cs : List Value) (h : Arr w e size A n c cs) (hA : ∀ a, A = some a → B0 ≤ a.block)
    (X : Option Addr) (m c2 : Nat) (news : List Value) (k : Arr w e size X m c2 news) (h1 : ∀ u ∈ news, u.oneCell' = true)
    (h63 : n + m ≤ maxLen) (hbytes : (n + m) * bytes ≤ 140737488355328) :
    ∃ A' c' w', (Builtin.append_ #[t, t] ty #[.slice A n c, .slice X m c2]).run P w = .ok (.slice A' (n + m) c') w' ∧ Arr w' e size A' (n + m) c' (cs ++ news) ∧ Below B0 w w' ∧ (∀ a, A' = some a → B0 ≤ a.block) := by
  by_cases hm : m = 0
  · subst hm
    have hn0 : news = [] := List.eq_nil_of_length_eq_zero (by rw [k.1]; omega)
    subst hn0
    exact ⟨A, c, w, run_append_zero w t ty e i ht hi A X n c c2 h.2.1, by simpa using h, Below.refl _ _, hA⟩
  · rcases k.cells with ⟨_, e0, _, _⟩ | ⟨g, off, rfl, _, hc⟩
    · exact absurd e0 hm
    · obtain ⟨g', off', c', w', q1, q2, q3, q4⟩ := run_append_arr (P := P) w t ty e i z size bytes ht hi hz hsize hby hzs hsz A n c cs h ⟨g, off, none⟩ m c2 news k.1 (fun j u hu => by rw [add_ofs]; exact (hc j u hu).1) h1 h63 hbytes (by omega)
      have hg : B0 ≤ g' := by
        rcases q4 with ⟨a0, ea, e⟩ | e
        · rw [e]; exact hA a0 ea
        · omega
      exact ⟨_, c', w', q1, q2, q3.below hB0 (fun k e => by omega), fun a ea => by cases ea; exact hg⟩
theorem wpList_append_low {P : Program} {w : World} {ops : Array Oper} {rest : List Oper} {o : Oper} {act : Act} {Q : Exit → Act → World → Prop} (hgd : o.guard = none) (s x : Operand) (t : TypeId)
    (ho : o.op = .call { callee := .builtin .append, args := #[s, x], argTypes := #[t, t] })
    (e : TypeId) (i : TypeInfo) (z : Value) (size bytes : Nat) (ht : P.underlying t = some (.slice e)) (hi : P.info? e = some i) (hz : i.zero = some z)
    (hsize : i.size = size) (hby : i.bytes = bytes) (hzs : z.cells.size = size) (hsz : 0 < size) (B0 : Nat) (hB0 : B0 ≤ w.heap.size)
    (A : Option Addr) (n c : Nat) (cs : List Value) (hs : act.eval s = .slice A n c) (h : Arr w e size A n c cs) (hA : ∀ a, A = some a → B0 ≤ a.block)
    (X : Option Addr) (m c2 : Nat) (news : List Value) (hx : act.eval x = .slice X m c2) (k : Arr w e size X m c2 news) (h1 : ∀ u ∈ news, u.oneCell' = true)
    (h63 : n + m ≤ maxLen) (hbytes : (n + m) * bytes ≤ 140737488355328)
    (hK : ∀ A' c' w', Arr w' e size A' (n + m) c' (cs ++ news) → Below B0 w w' → (∀ a, A' = some a → B0 ≤ a.block) →
      wpList P ops Q rest (act.put o.dst (.slice A' (n + m) c')) w') : wpList P ops Q (o :: rest) act w := by
  refine wpList_plain hgd fun K hK' => ?_
  obtain ⟨A', c', w', hr, q1, q2, q3⟩ := run_append_low (P := P) w t o.type e i z size bytes ht hi hz hsize hby hzs hsz B0 hB0 A n c cs h hA X m c2 news k h1 h63 hbytes
  unfold Oper.wp execOp
  simp only [ho, resolve, invoke, builtin, Sem.run_bind, Sem.run_pure, Result.andThen_ok, List.map_toArray, List.map_cons, List.map_nil, hs, hx, hr]
  exact hK' _ _ (hK A' c' w' q1 q2 q3)
/-- what is behind an element -/
theorem Arr.rest {w : World} {e size n c g off : Nat} {cs : List Value} (h : Arr w e size (some ⟨g, off, none⟩) n c cs) {k : Nat} (hk : k ≤ n) : Arr w e size (if c = k then some ⟨g, off, none⟩ else some ⟨g, off + k * size, none⟩) (n - k) (c - k) (cs.drop (k * size)) := by
  by_cases hc : c = k
  · rw [if_pos hc]
    obtain ⟨h0, h1, h2, h3⟩ := h
    have hnk : n = k := by omega
    refine ⟨by rw [List.length_drop, h0, Nat.sub_mul], by omega, by omega, ?_⟩
    rcases h3 with ⟨e1, _⟩ | ⟨g', off', cur, e1, hg, hs, ht⟩
    · cases e1
    · cases e1
      refine .inr ⟨g, off, cur, rfl, hg, by rw [hc, Nat.sub_self]; have := Nat.zero_le (c * size); omega, ?_⟩
      rw [hnk, Nat.sub_self, Nat.zero_mul, List.take_zero, List.drop_eq_nil_of_le (by rw [h0, hnk]; exact Nat.le_refl _)]
  · rw [if_neg hc]; exact h.drop hk
end Go.Wm
