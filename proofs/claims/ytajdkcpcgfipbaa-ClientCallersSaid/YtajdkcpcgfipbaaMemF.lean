/- An append of a slice that reads as a list, be it nil or not. No program in sight. -/
import Derived.Test.YtajdkcpcgfipbaaMemE
import Derived.Deep.Upon
import Derived.Lib.ConvBytes
namespace Go.Wm
open Go.RowKit

theorem run_append_rd {P : Program} (k : IntKind) (w : World) (base : Nat) (t ty e : TypeId) (i : TypeInfo) (z : Value) (bytes : Nat) (ht : P.underlying t = some (.slice e)) (hi : P.info? e = some i) (hz : i.zero = some z)
    (hsize : i.size = 1) (hby : i.bytes = bytes) (hzs : z.cells.size = 1)
    (A0 : Option Addr) (c0 n : Nat) (xs : List Value) (hown : w.ownsRow base e 1 (.slice A0 n c0) n xs)
    (A : Option Addr) (c : Nat) (ys : List Int) (hr : Rd k w A ys)
    (h63 : n + ys.length ≤ maxLen) (hbytes : (n + ys.length) * bytes ≤ 140737488355328) (hbase : base ≤ w.heap.size) :
    ∃ v' w', (Builtin.append_ #[t, t] ty #[.slice A0 n c0, .slice A ys.length c]).run P w = .ok v' w' ∧ w'.ownsRow base e 1 v' (n + ys.length) (xs ++ ys.map (Value.int k)) ∧ w.grownBy w' (Value.slice A0 n c0).ownBlock ∧
      (v'.ownBlock = (Value.slice A0 n c0).ownBlock ∨ v'.ownBlock = some w.heap.size) ∧ w'.ownsRow base e 1 (.slice A0 n c0) n xs := by
  by_cases h0 : ys = []
  · subst h0
    have hs : Src P i.size t (.slice A 0 c) 0 [] w := by
      cases A with
      | none => exact Src.ofNil w ht c
      | some a => exact Src.ofSlice w ht a 0 c [] (by simp) (by simp) (by simp)
    exact ⟨_, w, run_append_nothing w t t ty e i ht hi A0 n c0 (own_cap hown) _ hs, by simpa using hown, ⟨rfl, rfl, rfl, Nat.le_refl _, fun _ _ _ => rfl⟩, .inl rfl, hown⟩
  · have hA : ∃ a, A = some a := by
      rcases hr with h | ⟨b, off, h, _⟩
      · exact absurd h h0
      · exact ⟨_, h⟩
    obtain ⟨a, rfl⟩ := hA
    exact run_append_keep w base t ty e i z 1 bytes ht hi hz hsize hby hzs (by omega) _ n xs hown a ys.length c (ys.map (Value.int k)) (by simp) hr.news (ones _ _) h63 hbytes hbase
theorem wpList_append_rd {P : Program} {w : World} {ops : Array Oper} {rest : List Oper} {o : Oper} {a : Act} {Q : Exit → Act → World → Prop} (k : IntKind) (hgd : o.guard = none) (s x : Operand) (t : TypeId)
    (ho : o.op = .call { callee := .builtin .append, args := #[s, x], argTypes := #[t, t] })
    (base : Nat) (e : TypeId) (i : TypeInfo) (z : Value) (bytes : Nat) (ht : P.underlying t = some (.slice e)) (hi : P.info? e = some i) (hz : i.zero = some z)
    (hsize : i.size = 1) (hby : i.bytes = bytes) (hzs : z.cells.size = 1)
    (A0 : Option Addr) (c0 n : Nat) (xs : List Value) (hs : a.eval s = .slice A0 n c0) (hown : w.ownsRow base e 1 (.slice A0 n c0) n xs)
    (A : Option Addr) (m c : Nat) (ys : List Int) (hx : a.eval x = .slice A m c) (hm : m = ys.length) (hr : Rd k w A ys)
    (h63 : n + m ≤ maxLen) (hbytes : (n + m) * bytes ≤ 140737488355328) (hbase : base ≤ w.heap.size)
    (h : ∀ A' c' w', w'.ownsRow base e 1 (.slice A' (n + m) c') (n + m) (xs ++ ys.map (Value.int k)) → w.grownBy w' (Value.slice A0 n c0).ownBlock → w'.ownsRow base e 1 (.slice A0 n c0) n xs → Below base w w' → wpList P ops Q rest (a.put o.dst (.slice A' (n + m) c')) w') : wpList P ops Q (o :: rest) a w := by
  subst hm
  refine wpList_plain hgd fun K hK => ?_
  obtain ⟨v', w', hr, h2, h3, h4, h5⟩ := run_append_rd (P := P) k w base t o.type e i z bytes ht hi hz hsize hby hzs A0 c0 n xs hown A c ys hr h63 hbytes hbase
  obtain ⟨A', c', rfl⟩ := own_slice' h2
  unfold Oper.wp execOp
  simp only [ho, resolve, invoke, builtin, Sem.run_bind, Sem.run_pure, Result.andThen_ok, List.map_toArray, List.map_cons, List.map_nil, hs, hx, hr]
  exact hK _ _ (h A' c' w' h2 h3 h5 ((Below.refl base w).grown h3 hbase (fun k ek => (hown.lt k ek).1)))
theorem conv_str {P : Program} (w : World) (src dst e : TypeId) (s : ByteArray) (hs : P.underlying src = some .string) (hd : P.underlying dst = some (.slice e)) (he : P.underlying e = some (.int .u8)) :
    ∃ c w', (convert src dst (.string s)).run P w = .ok (.slice (some ⟨w.heap.size, 0, none⟩) s.size c) w' ∧ Rd .u8 w' (some ⟨w.heap.size, 0, none⟩) (strI s) ∧ Below w.heap.size w w' ∧ s.size ≤ s.size + c := by
  refine ⟨_, _, Lib.run_convert_string_bytes w src dst e s hs hd he, .inr ⟨_, 0, rfl, by rw [Lib.bytesWorld_size]; omega, fun j hj => ?_⟩, ⟨rfl, rfl, rfl, by rw [Lib.bytesWorld_size]; omega, fun k hk => Lib.bytesWorld_at_old w e s k hk⟩, by omega⟩
  rw [strI_length] at hj
  rw [Nat.zero_add, Lib.bytesWorld_cell w e s j hj]
  have hj' : j < s.data.toList.length := by simpa using hj
  simp only [strI, List.getElem?_map, List.getElem?_eq_getElem hj', Option.map_some, Option.getD_some, List.getD]
theorem own_cast {w : World} {base e size n m : Nat} {v : Value} {xs ys : List Value} (h : w.ownsRow base e size v n xs) (hn : n = m) (hx : xs = ys) : w.ownsRow base e size v m ys := hn ▸ hx ▸ h
end Go.Wm
