/- Slices that lie anywhere in a block: the cells that they own, append, one cell set; lists laid out in chunks of cells. No program in sight. -/
import Derived.Test.YtajdkcpcgfipbaaMemG
namespace Go.Wm
open Go.RowKit

/-! ### lists laid out in chunks -/
def Lay {α : Type} (size : Nat) (enc : α → List Value → Prop) : List α → List Value → Prop
  | [], cs => cs = []
  | x :: xs, cs => ∃ ch rest, cs = ch ++ rest ∧ ch.length = size ∧ enc x ch ∧ Lay size enc xs rest
section
variable {α : Type} {size : Nat} {enc enc' : α → List Value → Prop}
theorem Lay.length : ∀ {xs : List α} {cs : List Value}, Lay size enc xs cs → cs.length = xs.length * size
  | [], cs, h => by simp [Lay] at h; simp [h]
  | x :: xs, cs, ⟨ch, rest, e, hl, _, hr⟩ => by rw [e, List.length_append, hl, Lay.length hr, List.length_cons, Nat.add_mul]; omega
theorem Lay.append : ∀ {xs ys : List α} {cs ds : List Value}, Lay size enc xs cs → Lay size enc ys ds → Lay size enc (xs ++ ys) (cs ++ ds)
  | [], ys, cs, ds, h, k => by simp [Lay] at h; subst h; simpa using k
  | x :: xs, ys, cs, ds, ⟨ch, rest, e, hl, he, hr⟩, k => ⟨ch, rest ++ ds, by rw [e, List.append_assoc], hl, he, hr.append k⟩
theorem Lay.one {x : α} {ch : List Value} (hl : ch.length = size) (h : enc x ch) : Lay size enc [x] ch := ⟨ch, [], by simp, hl, h, rfl⟩
theorem Lay.mono : ∀ {xs : List α} {cs : List Value}, Lay size enc xs cs → (∀ x ∈ xs, ∀ ch, (∀ u ∈ ch, u ∈ cs) → enc x ch → enc' x ch) → Lay size enc' xs cs
  | [], cs, h, _ => h
  | x :: xs, cs, ⟨ch, rest, e, hl, he, hr⟩, k => ⟨ch, rest, e, hl, k x (by simp) ch (fun u hu => by rw [e]; simp [hu]) he, hr.mono (fun y hy c hc hq => k y (by simp [hy]) c (fun u hu => by rw [e]; simp [hc u hu]) hq)⟩
theorem Lay.drop : ∀ (k : Nat) {xs : List α} {cs : List Value}, Lay size enc xs cs → Lay size enc (xs.drop k) (cs.drop (k * size))
  | 0, xs, cs, h => by simpa using h
  | k + 1, [], cs, h => by simp [Lay] at h; subst h; simp [Lay]
  | k + 1, x :: xs, cs, ⟨ch, rest, e, hl, he, hr⟩ => by
    rw [e, List.drop_succ_cons, show (k + 1) * size = ch.length + k * size from by rw [hl, Nat.add_mul]; omega, ← List.drop_drop, List.drop_left]
    exact Lay.drop k hr
theorem Lay.take : ∀ (k : Nat) {xs : List α} {cs : List Value}, Lay size enc xs cs → Lay size enc (xs.take k) (cs.take (k * size))
  | 0, xs, cs, h => by simp [Lay]
  | k + 1, [], cs, h => by simp [Lay] at h; subst h; simp [Lay]
  | k + 1, x :: xs, cs, ⟨ch, rest, e, hl, he, hr⟩ => by
    rw [e, List.take_succ_cons, show (k + 1) * size = ch.length + k * size from by rw [hl, Nat.add_mul]; omega, List.take_append, Nat.add_sub_cancel_left, List.take_of_length_le (l := ch) (by omega)]
    exact ⟨ch, _, rfl, hl, he, Lay.take k hr⟩
theorem Lay.get : ∀ {xs : List α} {cs : List Value}, Lay size enc xs cs → ∀ {i : Nat} {x : α}, xs[i]? = some x → ∃ ch, ch.length = size ∧ enc x ch ∧ ∀ j, j < size → cs[i * size + j]? = ch[j]?
  | [], cs, h, i, x, hx => by simp at hx
  | y :: ys, cs, ⟨ch, rest, e, hl, he, hr⟩, 0, x, hx => by
    simp at hx; subst hx
    exact ⟨ch, hl, he, fun j hj => by rw [e, Nat.zero_mul, Nat.zero_add, List.getElem?_append_left (by omega)]⟩
  | y :: ys, cs, ⟨ch, rest, e, hl, he, hr⟩, i + 1, x, hx => by
    simp at hx
    obtain ⟨c, h1, h2, h3⟩ := hr.get hx
    refine ⟨c, h1, h2, fun j hj => ?_⟩
    rw [e, show (i + 1) * size + j = ch.length + (i * size + j) from by rw [hl, Nat.add_mul]; omega, List.getElem?_append_right (by omega), Nat.add_sub_cancel_left]
    exact h3 j hj
theorem Lay.setCell : ∀ {xs : List α} {cs : List Value}, Lay size enc xs cs → ∀ {i j : Nat} {x y : α} {u : Value}, xs[i]? = some x → j < size → (∀ ch, enc x ch → ch.length = size → enc y (ch.set j u)) → Lay size enc (xs.set i y) (cs.set (i * size + j) u)
  | [], cs, h, i, j, x, y, u, hx, _, _ => by simp at hx
  | z :: zs, cs, ⟨ch, rest, e, hl, he, hr⟩, 0, j, x, y, u, hx, hj, k => by
    simp at hx; subst hx
    rw [e, Nat.zero_mul, Nat.zero_add, List.set_append_left _ _ (by omega)]
    exact ⟨_, rest, rfl, by simpa using hl, k ch he hl, hr⟩
  | z :: zs, cs, ⟨ch, rest, e, hl, he, hr⟩, i + 1, j, x, y, u, hx, hj, k => by
    simp at hx
    rw [e, show (i + 1) * size + j = ch.length + (i * size + j) from by rw [hl, Nat.add_mul]; omega, List.set_append_right _ _ (by omega), Nat.add_sub_cancel_left]
    exact ⟨ch, _, rfl, hl, he, hr.setCell hx hj k⟩
theorem Lay.split : ∀ {xs ys : List α} {cs : List Value}, Lay size enc (xs ++ ys) cs → ∃ a b, cs = a ++ b ∧ Lay size enc xs a ∧ Lay size enc ys b
  | [], ys, cs, h => ⟨[], cs, rfl, rfl, h⟩
  | x :: xs, ys, cs, ⟨ch, rest, e, hl, he, hr⟩ => by
    obtain ⟨a, b, e2, h1, h2⟩ := Lay.split hr
    exact ⟨ch ++ a, b, by rw [e, e2, List.append_assoc], ⟨ch, a, rfl, hl, he, h1⟩, h2⟩
end

/-! ### a slice of the call's own, anywhere in its block -/
/-- n elements of 'size' cells each, room for c, in a block of elements of type e; its cells are cs -/
def Arr (w : World) (e size : Nat) (A : Option Addr) (n c : Nat) (cs : List Value) : Prop :=
  cs.length = n * size ∧ n ≤ c ∧ c ≤ maxLen ∧ ((A = none ∧ c = 0) ∨ ∃ g off cur, A = some ⟨g, off, none⟩ ∧ w.heap[g]? = some (.cells cur e (0, 0)) ∧ off + c * size ≤ cur.size ∧ (cur.toList.drop off).take (n * size) = cs)
theorem Arr.nil (w : World) (e size : Nat) : Arr w e size none 0 0 [] := ⟨by simp, Nat.le_refl _, Nat.zero_le _, .inl ⟨rfl, rfl⟩⟩
theorem Arr.of_own {w : World} {base e size n c : Nat} {A : Option Addr} {cs : List Value} (h : w.ownsRow base e size (.slice A n c) n cs) : Arr w e size A n c cs := by
  refine ⟨h.1, ?_⟩
  rcases h.2 with ⟨e1, e2⟩ | ⟨g, cap, cur, e1, hb, hg, h1, h2, h3, h4⟩
  · cases e1; exact ⟨Nat.le_refl _, Nat.zero_le _, .inl ⟨rfl, rfl⟩⟩
  · cases e1; exact ⟨h1, h2, .inr ⟨g, 0, cur, rfl, hg, by rw [h3]; omega, by simpa using h4⟩⟩
section
variable {w w' : World} {e size n c : Nat} {A : Option Addr} {cs : List Value}
theorem Arr.blk (h : Arr w e size A n c cs) : ∀ a, A = some a → a.spot = none ∧ a.block < w.heap.size ∧ ∃ cur, w.heap[a.block]? = some (.cells cur e (0, 0)) := by
  rintro a rfl
  obtain ⟨_, _, _, ⟨h1, _⟩ | ⟨g, off, cur, h1, h2, _⟩⟩ := h
  · cases h1
  · cases h1; exact ⟨rfl, (Array.getElem?_eq_some_iff.1 h2).1, cur, h2⟩
theorem Arr.kp {S : Nat → Prop} (h : Arr w e size A n c cs) (k : Kp S w w') (hn : ∀ a, A = some a → ¬ S a.block) : Arr w' e size A n c cs := by
  obtain ⟨h0, h1, h2, h3 | ⟨g, off, cur, rfl, hg, rest⟩⟩ := h
  · exact ⟨h0, h1, h2, .inl h3⟩
  · exact ⟨h0, h1, h2, .inr ⟨g, off, cur, rfl, (k.block g (Array.getElem?_eq_some_iff.1 hg).1 (hn _ rfl)).trans hg, rest⟩⟩
theorem Arr.cell (h : Arr w e size A n c cs) {j : Nat} {u : Value} (hu : cs[j]? = some u) : ∃ g off, A = some ⟨g, off, none⟩ ∧ w.cell? ⟨g, off + j, none⟩ = some u ∧ w.frozen? ⟨g, off + j, none⟩ = false := by
  obtain ⟨h0, h1, h2, ⟨rfl, rfl⟩ | ⟨g, off, cur, rfl, hg, hs, ht⟩⟩ := h
  · obtain rfl : n = 0 := by omega
    rw [Nat.zero_mul] at h0
    rw [List.eq_nil_of_length_eq_zero h0] at hu; simp at hu
  · refine ⟨g, off, rfl, ?_, by simp [World.frozen?, hg]⟩
    rw [← ht, List.getElem?_take] at hu
    split at hu
    · rw [List.getElem?_drop] at hu
      simp only [World.cell?, hg, Option.isSome_none]
      simpa using hu
    · cases hu
/-- part on whether there is an address at all -/
theorem Arr.cells (h : Arr w e size A n c cs) : (A = none ∧ n = 0 ∧ c = 0 ∧ cs = []) ∨ ∃ g off, A = some ⟨g, off, none⟩ ∧ g < w.heap.size ∧ ∀ (j : Nat) (u : Value), cs[j]? = some u → w.cell? ⟨g, off + j, none⟩ = some u ∧ w.frozen? ⟨g, off + j, none⟩ = false := by
  obtain ⟨h0, h1, h2, ⟨rfl, rfl⟩ | ⟨g, off, cur, rfl, hg, hs, ht⟩⟩ := id h
  · obtain rfl : n = 0 := by omega
    rw [Nat.zero_mul] at h0
    exact .inl ⟨rfl, rfl, rfl, List.eq_nil_of_length_eq_zero h0⟩
  · exact .inr ⟨g, off, rfl, (Array.getElem?_eq_some_iff.1 hg).1, fun j u hu => by
      obtain ⟨g', off', e1, h5⟩ := h.cell hu
      cases e1; exact h5⟩
theorem Arr.set (h : Arr w e size A n c cs) {g off j : Nat} (hA : A = some ⟨g, off, none⟩) (u : Value) : Arr (w.setCell ⟨g, off + j, none⟩ u) e size A n c (cs.set j u) := by
  obtain ⟨h0, h1, h2, ⟨rfl, rfl⟩ | ⟨g', off', cur, e1, hg, hs, ht⟩⟩ := h
  · cases hA
  · rw [hA] at e1; cases e1
    refine ⟨by simpa using h0, h1, h2, .inr ⟨g, off, cur.set! (off + j) u, hA, ?_, by simpa using hs, ?_⟩⟩
    · simp [World.setCell, Array.getElem?_modify, hg]
    · rw [← ht]
      simp only [Array.set!_eq_setIfInBounds, Array.toList_setIfInBounds]
      rw [List.drop_set, if_neg (by omega), show off + j - off = j from by omega, List.take_set]
theorem Arr.drop {b off : Nat} (h : Arr w e size (some ⟨b, off, none⟩) n c cs) {k : Nat} (hk : k ≤ n) : Arr w e size (some ⟨b, off + k * size, none⟩) (n - k) (c - k) (cs.drop (k * size)) := by
  obtain ⟨h0, h1, h2, ⟨e1, _⟩ | ⟨g, off', cur, e1, hg, hs, ht⟩⟩ := h
  · cases e1
  · cases e1
    refine ⟨by rw [List.length_drop, h0, Nat.sub_mul], by omega, by omega, .inr ⟨b, _, cur, rfl, hg, ?_, ?_⟩⟩
    · rw [Nat.sub_mul]; have := Nat.mul_le_mul_right size (Nat.le_trans hk h1); omega
    · rw [← ht, List.drop_take, List.drop_drop, Nat.sub_mul]
end

/-! ### append -/
theorem add_ofs (g off k : Nat) : (⟨g, off, none⟩ : Addr).add k = ⟨g, off + k, none⟩ := by unfold Addr.add; split <;> simp_all
theorem run_append_room_ofs {P : Program} (w : World) (t ty e : TypeId) (i : TypeInfo) (ht : P.underlying t = some (.slice e)) (hi : P.info? e = some i)
    (g off sLen sCap : Nat) (cur : Array Value) (hg : w.heap[g]? = some (.cells cur e (0, 0)))
    (a : Addr) (m c : Nat) (news : List Value) (hl : news.length = m * i.size) (hnews : ∀ j u, news[j]? = some u → w.cell? (a.add j) = some u) (h1 : ∀ u ∈ news, u.oneCell' = true)
    (hroom : sLen + m ≤ sCap) (hfit : off + sLen * i.size + news.length ≤ cur.size) :
    (Builtin.append_ #[t, t] ty #[.slice (some ⟨g, off, none⟩) sLen sCap, .slice (some a) m c]).run P w =
      .ok (.slice (some ⟨g, off, none⟩) (sLen + m) sCap) (w.setRow g (cur.toList.take (off + sLen * i.size) ++ news ++ cur.toList.drop (off + sLen * i.size + news.length)).toArray) := by
  have hf := run_firstCells_some (P := P) w i.size m a m c news hl hnews
  have hst := run_storeCells_at P g (off + sLen * i.size) e news 0 cur w hg (by simpa using hfit) h1
  simp only [Nat.add_zero] at hst
  simp [Builtin.append_, run_underlying ht, sizeOf, typeInfo, hi, Builtin.lenOf, hroom, hf, add_ofs, hst]
theorem run_append_arr {P : Program} (w : World) (t ty e : TypeId) (i : TypeInfo) (z : Value) (size bytes : Nat) (ht : P.underlying t = some (.slice e)) (hi : P.info? e = some i) (hz : i.zero = some z)
    (hsize : i.size = size) (hby : i.bytes = bytes) (hzs : z.cells.size = size) (hsz : 0 < size)
    (A : Option Addr) (n c : Nat) (cs : List Value) (h : Arr w e size A n c cs)
    (a : Addr) (m c2 : Nat) (news : List Value) (hl : news.length = m * size) (hnews : ∀ j u, news[j]? = some u → w.cell? (a.add j) = some u) (h1 : ∀ u ∈ news, u.oneCell' = true)
    (h63 : n + m ≤ maxLen) (hbytes : (n + m) * bytes ≤ 140737488355328) (hm : 0 < m) :
    ∃ g' off' c' w', (Builtin.append_ #[t, t] ty #[.slice A n c, .slice (some a) m c2]).run P w = .ok (.slice (some ⟨g', off', none⟩) (n + m) c') w' ∧ Arr w' e size (some ⟨g', off', none⟩) (n + m) c' (cs ++ news) ∧
      Kp (fun k => k = g') w w' ∧ ((∃ a0, A = some a0 ∧ g' = a0.block) ∨ (g' = w.heap.size)) := by
  subst hsize
  subst hby
  have hlen : (cs ++ news).length = (n + m) * i.size := by rw [List.length_append, h.1, hl, Nat.add_mul]
  have grown : ∀ (old : Nat), old < n + m →
      Arr (w.drew.alloc (.cells (cs.toArray ++ news.toArray ++ Builtin.zeroCells z.cells (grownCap w (n + m) old e - (n + m))) e)) e i.size
        (some ⟨w.heap.size, 0, none⟩) (n + m) (grownCap w (n + m) old e) (cs ++ news) := by
    intro old ho
    have hge := grownCap_ge w (n + m) old e
    have hcm : grownCap w (n + m) old e ≤ maxLen := grownCap_le_maxLen w (n + m) old e h63
    refine ⟨hlen, hge, hcm, .inr ⟨w.heap.size, 0, _, rfl, heap_alloc_new w.drew _, ?_, ?_⟩⟩
    · simp only [Array.size_append, List.size_toArray, size_zeroCells, hzs, h.1, hl, ← Nat.add_mul]
      rw [Nat.zero_add]
      exact Nat.mul_le_mul_right _ (by omega)
    · simp only [Array.toList_append, List.append_assoc, List.drop_zero]
      rw [← List.append_assoc, ← hlen]
      exact List.take_left
  have kpg : ∀ (o : Obj) (S : Nat → Prop), Kp S w (w.drew.alloc o) := fun o S => Kp.of_below (((Below.refl w.heap.size w).drew).alloc (Nat.le_refl _) _)
  obtain ⟨h0, hnc, hcm, ⟨rfl, rfl⟩ | ⟨g, off, cur, rfl, hg, hs, htk⟩⟩ := id h
  · obtain rfl : n = 0 := by omega
    rw [Nat.zero_mul] at h0
    obtain rfl := List.eq_nil_of_length_eq_zero h0
    have hr := run_append_nil (P := P) w t ty e i z ht hi hz a m c2 news hl hnews hm (by simp only [maxLen] at h63; omega) (by have hb := hbytes; simp only [Nat.zero_add] at hb; omega)
    have hgr := grown 0 (by omega)
    simp only [Nat.zero_add, List.nil_append, Array.empty_append] at hgr ⊢
    exact ⟨_, _, _, _, hr, hgr, kpg _ _, .inr rfl⟩
  · by_cases hroom : n + m ≤ c
    · have hfit : off + n * i.size + news.length ≤ cur.size := by
        rw [hl]
        have := Nat.mul_le_mul_right i.size hroom
        rw [Nat.add_mul] at this; omega
      have hr := run_append_room_ofs (P := P) w t ty e i ht hi g off n c cur hg a m c2 news hl hnews h1 hroom hfit
      refine ⟨_, _, _, _, hr, ⟨hlen, hroom, hcm, .inr ⟨g, off, _, rfl, setRow_heap w g cur _ e _ hg, ?_, ?_⟩⟩, ⟨rfl, rfl, rfl, by simp, fun k _ hk => setRow_other w g k _ (fun e => hk e)⟩, .inl ⟨_, rfl, rfl⟩⟩
      · simp only [List.size_toArray, List.length_append, List.length_take, List.length_drop, Array.length_toList]
        omega
      · have e1 : (cur.toList.take (off + n * i.size)).drop off = cs := by
          rw [List.drop_take, Nat.add_sub_cancel_left]; exact htk
        have e2 : (cur.toList.take (off + n * i.size)).length = off + n * i.size := by rw [List.length_take, Array.length_toList]; omega
        rw [List.append_assoc, List.drop_append_of_le_length (by omega), e1, ← List.append_assoc, ← hlen]
        exact List.take_left
    · have holds : ∀ j u, cs[j]? = some u → w.cell? ((⟨g, off, none⟩ : Addr).add j) = some u := fun j u hu => by
        obtain ⟨g', off', e1, h5, _⟩ := h.cell hu
        cases e1; rw [add_ofs]; exact h5
      have hr := run_append_grow (P := P) w t ty e i z ht hi hz ⟨g, off, none⟩ n c cs h.1 holds a m c2 news hl hnews (by omega) (by simp only [maxLen] at h63; omega) (growslice_fits (by omega) hbytes)
      exact ⟨_, _, _, _, hr, grown c (by omega), kpg _ _, .inr rfl⟩
theorem wpList_append_arr {P : Program} {w : World} {ops : Array Oper} {rest : List Oper} {o : Oper} {act : Act} {Q : Exit → Act → World → Prop} (hgd : o.guard = none) (s x : Operand) (t : TypeId)
    (ho : o.op = .call { callee := .builtin .append, args := #[s, x], argTypes := #[t, t] })
    (e : TypeId) (i : TypeInfo) (z : Value) (size bytes : Nat) (ht : P.underlying t = some (.slice e)) (hi : P.info? e = some i) (hz : i.zero = some z)
    (hsize : i.size = size) (hby : i.bytes = bytes) (hzs : z.cells.size = size) (hsz : 0 < size)
    (A : Option Addr) (n c : Nat) (cs : List Value) (hs : act.eval s = .slice A n c) (h : Arr w e size A n c cs)
    (a : Addr) (m c2 : Nat) (news : List Value) (hx : act.eval x = .slice (some a) m c2) (hl : news.length = m * size) (hnews : ∀ j u, news[j]? = some u → w.cell? (a.add j) = some u) (h1 : ∀ u ∈ news, u.oneCell' = true)
    (h63 : n + m ≤ maxLen) (hbytes : (n + m) * bytes ≤ 140737488355328) (hm : 0 < m)
    (hK : ∀ g' off' c' w', Arr w' e size (some ⟨g', off', none⟩) (n + m) c' (cs ++ news) → Kp (fun k => k = g') w w' → ((∃ a0, A = some a0 ∧ g' = a0.block) ∨ (g' = w.heap.size)) →
      wpList P ops Q rest (act.put o.dst (.slice (some ⟨g', off', none⟩) (n + m) c')) w') : wpList P ops Q (o :: rest) act w := by
  refine wpList_plain hgd fun K hK' => ?_
  obtain ⟨g', off', c', w', hr, q1, q2, q3⟩ := run_append_arr (P := P) w t o.type e i z size bytes ht hi hz hsize hby hzs hsz A n c cs h a m c2 news hl hnews h1 h63 hbytes hm
  unfold Oper.wp execOp
  simp only [ho, resolve, invoke, builtin, Sem.run_bind, Sem.run_pure, Result.andThen_ok, List.map_toArray, List.map_cons, List.map_nil, hs, hx, hr]
  exact hK' _ _ (hK g' off' c' w' q1 q2 q3)
/-- at a step of a region that draws its order -/
theorem step_append_arr {P : Program} {w : World} {ops : Array Oper} {o : Oper} {act : Act} {K : Act → World → Prop} {Q : Exit → Act → World → Prop} {E : Prop} (hgd : o.guard = none) (s x : Operand) (t : TypeId)
    (ho : o.op = .call { callee := .builtin .append, args := #[s, x], argTypes := #[t, t] })
    (e : TypeId) (i : TypeInfo) (z : Value) (size bytes : Nat) (ht : P.underlying t = some (.slice e)) (hi : P.info? e = some i) (hz : i.zero = some z)
    (hsize : i.size = size) (hby : i.bytes = bytes) (hzs : z.cells.size = size) (hsz : 0 < size)
    (A : Option Addr) (n c : Nat) (cs : List Value) (hs : act.eval s = .slice A n c) (h : Arr w e size A n c cs)
    (a : Addr) (m c2 : Nat) (news : List Value) (hx : act.eval x = .slice (some a) m c2) (hl : news.length = m * size) (hnews : ∀ j u, news[j]? = some u → w.cell? (a.add j) = some u) (h1 : ∀ u ∈ news, u.oneCell' = true)
    (h63 : n + m ≤ maxLen) (hbytes : (n + m) * bytes ≤ 140737488355328) (hm : 0 < m)
    (hK : ∀ g' off' c' w', Arr w' e size (some ⟨g', off', none⟩) (n + m) c' (cs ++ news) → Kp (fun k => k = g') w w' → ((∃ a0, A = some a0 ∧ g' = a0.block) ∨ (g' = w.heap.size)) →
      K (act.put o.dst (.slice (some ⟨g', off', none⟩) (n + m) c')) w') :
    if Region.wanted o (yielded ops act.tmps) = true then Oper.wp P o act w K Q else E := by
  have hw : Region.wanted o (yielded ops act.tmps) = true := by simp [Region.wanted, hgd]
  rw [if_pos hw]
  obtain ⟨g', off', c', w', hr, q1, q2, q3⟩ := run_append_arr (P := P) w t o.type e i z size bytes ht hi hz hsize hby hzs hsz A n c cs h a m c2 news hl hnews h1 h63 hbytes hm
  unfold Oper.wp execOp
  simp only [ho, resolve, invoke, builtin, Sem.run_bind, Sem.run_pure, Result.andThen_ok, List.map_toArray, List.map_cons, List.map_nil, hs, hx, hr]
  exact hK g' off' c' w' q1 q2 q3
end Go.Wm
