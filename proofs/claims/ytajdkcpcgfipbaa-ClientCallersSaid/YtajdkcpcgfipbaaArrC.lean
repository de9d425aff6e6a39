/- A slice's own cells, written over in place: append with room, clear. -/
import Derived.Test.YtajdkcpcgfipbaaArrB
namespace Go.Wm
open Go.RowKit

section
variable {w w' : World} {e size n c : Nat} {A : Option Addr} {cs : List Value}
theorem Arr.upto (h : Arr w e size A n c cs) {k : Nat} (hk : k ≤ n) : Arr w e size A k c (cs.take (k * size)) := by
  obtain ⟨h0, h1, h2, h3⟩ := h
  have hks := Nat.mul_le_mul_right size hk
  refine ⟨by rw [List.length_take, h0]; omega, by omega, h2, ?_⟩
  rcases h3 with h3 | ⟨g, off, cur, e1, hg, hs, ht⟩
  · exact .inl h3
  · exact .inr ⟨g, off, cur, e1, hg, hs, by rw [← ht, List.take_take, Nat.min_eq_left hks]⟩
theorem Arr.over {g off : Nat} (h : Arr w e size (some ⟨g, off, none⟩) n c cs) (p : Nat) (vs : List Value) (hp : p + vs.length ≤ n * size) {cur : Array Value} (hg : w.heap[g]? = some (.cells cur e (0, 0))) :
    off + p + vs.length ≤ cur.size ∧ Arr (w.setRow g (cur.toList.take (off + p) ++ vs ++ cur.toList.drop (off + p + vs.length)).toArray) e size (some ⟨g, off, none⟩) n c (cs.take p ++ vs ++ cs.drop (p + vs.length)) ∧ Kp (fun k => k = g) w (w.setRow g (cur.toList.take (off + p) ++ vs ++ cur.toList.drop (off + p + vs.length)).toArray) := by
  obtain ⟨h0, h1, h2, ⟨e1, _⟩ | ⟨g', off', cur', e1, hg', hs, ht⟩⟩ := h
  · cases e1
  · cases e1
    rw [hg] at hg'
    cases hg'
    have hcs := Nat.mul_le_mul_right size h1
    have hfit : off + p + vs.length ≤ cur.size := by omega
    have hcl : cur.toList.length = cur.size := Array.length_toList
    refine ⟨hfit, ⟨by simp only [List.length_append, List.length_take, List.length_drop, h0]; omega, h1, h2, .inr ⟨g, off, _, rfl, setRow_heap w g cur _ e _ hg, ?_, ?_⟩⟩, ⟨rfl, rfl, rfl, by simp, fun k _ hk => setRow_other w g k _ (fun e => hk e)⟩⟩
    · simp only [List.size_toArray, List.length_append, List.length_take, List.length_drop]
      omega
    · have e2 : (cur.toList.take (off + p)).drop off = (cur.toList.drop off).take p := by rw [List.drop_take, Nat.add_sub_cancel_left]
      have e3 : cs.take p = (cur.toList.drop off).take p := by rw [← ht, List.take_take, Nat.min_eq_left (by omega)]
      have e4 : cs.drop (p + vs.length) = (cur.toList.drop (off + p + vs.length)).take (n * size - (p + vs.length)) := by rw [← ht, List.drop_take, List.drop_drop, Nat.add_assoc]
      have l1 : (cs.take p).length = p := by rw [List.length_take, h0]; omega
      rw [e4, List.append_assoc, List.drop_append_of_le_length (by rw [List.length_take]; omega), e2, ← e3]
      rw [List.take_append, List.take_append, l1, List.take_of_length_le (by omega), List.take_of_length_le (l := vs) (by omega), List.append_assoc, Nat.sub_sub]
end
theorem run_append_back {P : Program} (w : World) (t ty e : TypeId) (i : TypeInfo) (size : Nat) (ht : P.underlying t = some (.slice e)) (hi : P.info? e = some i) (hsize : i.size = size)
    (g off n c : Nat) (cs : List Value) (h : Arr w e size (some ⟨g, off, none⟩) n c cs) (k : Nat)
    (a : Addr) (m c2 : Nat) (news : List Value) (hl : news.length = m * size) (hnews : ∀ j u, news[j]? = some u → w.cell? (a.add j) = some u) (h1 : ∀ u ∈ news, u.oneCell' = true) (hk : k + m ≤ n) :
    ∃ w', (Builtin.append_ #[t, t] ty #[.slice (some ⟨g, off, none⟩) k c, .slice (some a) m c2]).run P w = .ok (.slice (some ⟨g, off, none⟩) (k + m) c) w' ∧ Arr w' e size (some ⟨g, off, none⟩) n c (cs.take (k * size) ++ news ++ cs.drop (k * size + news.length)) ∧ Kp (fun k => k = g) w w' := by
  subst hsize
  obtain ⟨_, _, cur, hg⟩ := h.blk _ rfl
  have hks := Nat.mul_le_mul_right i.size hk
  rw [Nat.add_mul] at hks
  obtain ⟨o1, o2, o3⟩ := h.over (k * i.size) news (by omega) hg
  have hc := h.2.1
  exact ⟨_, run_append_room_ofs (P := P) w t ty e i ht hi g off k c cur hg a m c2 news hl hnews h1 (by omega) o1, o2, o3⟩
theorem step_append_back {P : Program} {w : World} {ops : Array Oper} {o : Oper} {act : Act} {K : Act → World → Prop} {Q : Exit → Act → World → Prop} {E : Prop} (hgd : o.guard = none) (s x : Operand) (t : TypeId)
    (ho : o.op = .call { callee := .builtin .append, args := #[s, x], argTypes := #[t, t] })
    (e : TypeId) (i : TypeInfo) (size : Nat) (ht : P.underlying t = some (.slice e)) (hi : P.info? e = some i) (hsize : i.size = size)
    (g off n c : Nat) (cs : List Value) (h : Arr w e size (some ⟨g, off, none⟩) n c cs) (k : Nat) (hs : act.eval s = .slice (some ⟨g, off, none⟩) k c)
    (a : Addr) (m c2 : Nat) (news : List Value) (hx : act.eval x = .slice (some a) m c2) (hl : news.length = m * size) (hnews : ∀ j u, news[j]? = some u → w.cell? (a.add j) = some u) (h1 : ∀ u ∈ news, u.oneCell' = true) (hk : k + m ≤ n)
    (hK : ∀ w', Arr w' e size (some ⟨g, off, none⟩) n c (cs.take (k * size) ++ news ++ cs.drop (k * size + news.length)) → Kp (fun k => k = g) w w' → K (act.put o.dst (.slice (some ⟨g, off, none⟩) (k + m) c)) w') :
    if Region.wanted o (yielded ops act.tmps) = true then Oper.wp P o act w K Q else E := by
  have hw : Region.wanted o (yielded ops act.tmps) = true := by simp [Region.wanted, hgd]
  rw [if_pos hw]
  obtain ⟨w', hr, q1, q2⟩ := run_append_back (P := P) w t o.type e i size ht hi hsize g off n c cs h k a m c2 news hl hnews h1 hk
  unfold Oper.wp execOp
  simp only [ho, resolve, invoke, builtin, Sem.run_bind, Sem.run_pure, Result.andThen_ok, List.map_toArray, List.map_cons, List.map_nil, hs, hx, hr]
  exact hK w' q1 q2
/-- clear of ONE element -/
theorem run_clear_back {P : Program} (w : World) (t e : TypeId) (z : Value) (size : Nat) (ht : P.underlying t = some (.slice e)) (hv : ∀ w, (zeroValue e).run P w = .ok z w) (hz : z.cells.size = size) (h1 : ∀ u ∈ z.cells.toList, u.oneCell' = true)
    (g off n c c2 : Nat) (cs : List Value) (h : Arr w e size (some ⟨g, off, none⟩) n c cs) (k : Nat) (hk : k < n) :
    ∃ w', (∀ ty, (Builtin.clear_ #[t] ty #[.slice (some ⟨g, off + k * size, none⟩) 1 c2]).run P w = .ok (.tuple #[]) w') ∧ Arr w' e size (some ⟨g, off, none⟩) n c (cs.take (k * size) ++ z.cells.toList ++ cs.drop (k * size + size)) ∧ Kp (fun k => k = g) w w' := by
  obtain ⟨_, _, cur, hg⟩ := h.blk _ rfl
  have hzl : z.cells.toList.length = size := by rw [Array.length_toList, hz]
  have hks := Nat.mul_le_mul_right size (show k + 1 ≤ n by omega)
  rw [Nat.add_mul, Nat.one_mul] at hks
  obtain ⟨o1, o2, o3⟩ := h.over (k * size) z.cells.toList (by omega) hg
  have hst := run_storeCells_at (P := P) g (off + k * size) e z.cells.toList 0 cur w hg (by simpa using o1) h1
  simp only [Nat.add_zero] at hst
  have hzc : (Builtin.zeroCells z.cells 1).toList = z.cells.toList := by
    simp [Builtin.zeroCells]
    apply List.ext_getElem
    · simp
    · intro j q1 q2
      simp at q1 q2 ⊢
      rw [Nat.mod_eq_of_lt q1, getElem!_pos z.cells j q1]
  rw [hzl] at o2 o3 hst
  refine ⟨_, fun ty => ?_, o2, o3⟩
  simp [Builtin.clear_, run_underlying ht, hv, hzc, hst]
end Go.Wm
