/- Small facts on memory: what a slice of ints reads as, and what keeps it. No program in sight. -/
import Derived.WalkKit
import Derived.RangeFuncBox
import Derived.Maps.AppendAt
import Derived.Lib.Hide
import Derived.Lib.AppendStr
import Derived.Laws.BytesArg
import Derived.Test.YtajdkcpcgfipbaaPure
namespace Go.Wm
open Go.RowKit

/-- what a slice of ints reads as: nothing, or cells in a row -/
def Rd (k : IntKind) (w : World) (A : Option Addr) (xs : List Int) : Prop :=
  xs = [] ∨ ∃ b off, A = some ⟨b, off, none⟩ ∧ b < w.heap.size ∧ ∀ j, j < xs.length → w.cell? ⟨b, off + j, none⟩ = some (.int k (xs[j]?.getD 0))
theorem Rd.below {k : IntKind} {n₀ : Nat} {w w' : World} {A : Option Addr} {xs : List Int} (h : Rd k w A xs) (hB : Below n₀ w w') (hn : w.heap.size ≤ n₀) : Rd k w' A xs := by
  rcases h with h | ⟨b, off, e, hb, hc⟩
  · exact .inl h
  · exact .inr ⟨b, off, e, Nat.lt_of_lt_of_le hb hB.size, fun j hj => (hB.cell (p := ⟨b, off + j, none⟩) (Nat.lt_of_lt_of_le hb hn)).trans (hc j hj)⟩
theorem Rd.nil (k : IntKind) (w : World) (A : Option Addr) : Rd k w A [] := .inl rfl
theorem Rd.of_own {k : IntKind} {w : World} {base e n c : Nat} {A : Option Addr} {xs : List Int} (h : w.ownsRow base e 1 (.slice A n c) n (xs.map (Value.int k))) : Rd k w A xs := by
  by_cases hx : xs = []
  · exact .inl hx
  · have hlen := h.1
    simp only [List.length_map, Nat.mul_one] at hlen
    rcases h.2 with ⟨e1, e2⟩ | ⟨g, cap, cur, e1, hb, hg, h1, h2, h3, h4⟩
    · subst e2; exact absurd (List.eq_nil_of_length_eq_zero hlen) hx
    · cases e1
      refine .inr ⟨g, 0, rfl, (Array.getElem?_eq_some_iff.1 hg).1, fun j hj => ?_⟩
      have hu : (xs.map (Value.int k))[j]? = some (.int k (xs[j]?.getD 0)) := by
        rw [List.getElem?_map, List.getElem?_eq_getElem hj]; rfl
      have := h.cells (g := g) rfl j _ hu
      rw [Nat.zero_add]
      rwa [show ((⟨g, 0, none⟩ : Addr).add j) = ⟨g, j, none⟩ from by unfold Addr.add; split <;> simp_all] at this
theorem Rd.news {k : IntKind} {w : World} {ad : Addr} {xs : List Int} (h : Rd k w (some ad) xs) : ∀ j u, (xs.map (Value.int k))[j]? = some u → w.cell? (ad.add j) = some u := by
  intro j u hu
  rw [List.getElem?_map] at hu
  rcases h with rfl | ⟨b, off, e, hb, hc⟩
  · simp at hu
  · cases e
    cases hx : xs[j]? with
    | none => rw [hx] at hu; cases hu
    | some x =>
      rw [hx] at hu
      have hj : j < xs.length := by
        by_cases hj : j < xs.length
        · exact hj
        · rw [List.getElem?_eq_none (by omega)] at hx; cases hx
      have := hc j hj
      rw [hx] at this
      have e2 : ((⟨b, off, none⟩ : Addr).add j) = ⟨b, off + j, none⟩ := by unfold Addr.add; split <;> simp_all
      rw [e2, this]
      exact hu
theorem Rd.alloc {k : IntKind} {w : World} {A : Option Addr} {xs : List Int} (h : Rd k w A xs) (o : Obj) : Rd k (w.alloc o) A xs :=
  h.below ((Below.refl w.heap.size w).alloc (Nat.le_refl _) o) (Nat.le_refl _)
theorem ones (k : IntKind) (xs : List Int) : ∀ u ∈ xs.map (Value.int k), u.oneCell' = true := by
  intro u hu
  obtain ⟨x, _, rfl⟩ := List.mem_map.1 hu
  rfl
/-- an append to a row of the call's own keeps whatever is no cells -/
theorem own_keeps {W w1 : World} {n₀ e size n : Nat} {v : Value} {xs : List Value} {tmp : Obj} (hrow : W.ownsRow n₀ e size v n xs) (hg : (W.alloc tmp).grownBy w1 v.ownBlock) : KeepsOthers W w1 := by
  refine (KeepsOthers.alloc W tmp).trans (KeepsOthers.of_grownBy hg fun j o ej hj => ?_)
  rcases (hrow.alloc tmp).2 with ⟨rfl, _⟩ | ⟨g, cap, cur, rfl, _, hgb, _⟩
  · simp [Value.ownBlock] at ej
  · obtain rfl : g = j := by simpa [Value.ownBlock] using ej
    rw [hgb] at hj; cases hj; rfl
theorem own_below {W w1 : World} {n₀ e size n : Nat} {v : Value} {xs : List Value} {tmp : Obj} (hrow : W.ownsRow n₀ e size v n xs) (hn : n₀ ≤ W.heap.size) (hg : (W.alloc tmp).grownBy w1 v.ownBlock) : Below n₀ W w1 :=
  ((Below.refl n₀ W).alloc hn tmp).grown hg (by simp; omega) fun k ek => (hrow.lt k ek).1

/-- WHAT LAY IS AS IT WAS, BUT FOR THE BLOCKS OF S -/
structure Kp (S : Nat → Prop) (w w' : World) : Prop where
  os : w'.os = w.os
  tape : w'.tape = w.tape
  output : w'.output = w.output
  size : w.heap.size ≤ w'.heap.size
  block : ∀ k, k < w.heap.size → ¬ S k → w'.heap[k]? = w.heap[k]?
theorem Kp.refl (S : Nat → Prop) (w : World) : Kp S w w := ⟨rfl, rfl, rfl, Nat.le_refl _, fun _ _ _ => rfl⟩
theorem Kp.trans {S S' : Nat → Prop} {a b c : World} (h : Kp S a b) (k : Kp S' b c) (hs : ∀ j, j < a.heap.size → S' j → S j) : Kp S a c :=
  ⟨k.os.trans h.os, k.tape.trans h.tape, k.output.trans h.output, Nat.le_trans h.size k.size, fun j hj hn => (k.block j (Nat.lt_of_lt_of_le hj h.size) (fun e => hn (hs j hj e))).trans (h.block j hj hn)⟩
theorem Kp.mono {S S' : Nat → Prop} {a b : World} (h : Kp S a b) (hs : ∀ j, j < a.heap.size → S j → S' j) : Kp S' a b := (Kp.refl S' a).trans h hs
theorem Kp.of_below {S : Nat → Prop} {w w' : World} (h : Below w.heap.size w w') : Kp S w w' := ⟨h.os, h.tape, h.output, h.size, fun k hk _ => h.block k hk⟩
theorem Kp.of_grown {S : Nat → Prop} {w w' : World} {row : Option Nat} (h : w.grownBy w' row) (hs : ∀ k, row = some k → S k) : Kp S w w' := ⟨h.os, h.tape, h.output, h.size, fun k hk hn => h.block k hk (fun e => hn (hs k e.symm))⟩
theorem Kp.below {S : Nat → Prop} {w w' : World} {B : Nat} (h : Kp S w w') (hB : B ≤ w.heap.size) (hs : ∀ k, S k → B ≤ k) : Below B w w' :=
  ⟨h.os, h.tape, h.output, h.size, fun k hk => h.block k (by omega) (fun e => by have := hs k e; omega)⟩
theorem Kp.alloc {S : Nat → Prop} {a w : World} (h : Kp S a w) (o : Obj) : Kp S a (w.alloc o) := h.trans (S' := S) (Kp.of_below ((Below.refl _ w).alloc (Nat.le_refl _) o)) (fun _ _ e => e)
theorem Kp.drew {S : Nat → Prop} {a w : World} (h : Kp S a w) : Kp S a w.drew := h.trans (S' := S) (Kp.of_below ((Below.refl _ w).drew)) (fun _ _ e => e)
theorem Kp.set {S : Nat → Prop} {a w : World} (h : Kp S a w) {p : Addr} (hp : p.block < a.heap.size → S p.block) (u : Value) : Kp S a (w.setCell p u) :=
  h.trans (S' := fun k => k = p.block) ⟨rfl, rfl, rfl, by simp [World.setCell], fun k _ hn => Below.heap_setCell _ _ _ _ hn⟩ (fun _ hj e => by subst e; exact hp hj)
theorem _root_.Go.Boxed.kp {S : Nat → Prop} {w w' : World} {B t : Nat} {v : Value} (h : Boxed w B t v) (k : Kp S w w') (hn : ¬ S B) : Boxed w' B t v := (k.block B h.lt hn).trans h
theorem own_kp {S : Nat → Prop} {w w' : World} {base e size n : Nat} {v : Value} {xs : List Value} (h : w.ownsRow base e size v n xs) (k : Kp S w w') (hn : ∀ b, v.ownBlock = some b → ¬ S b) : w'.ownsRow base e size v n xs := by
  obtain ⟨h1, h2⟩ := h
  refine ⟨h1, ?_⟩
  rcases h2 with h2 | ⟨g, cap, cur, rfl, hb, hg, rest⟩
  · exact .inl h2
  · exact .inr ⟨g, cap, cur, rfl, hb, (k.block g (Array.getElem?_eq_some_iff.1 hg).1 (hn g rfl)).trans hg, rest⟩
theorem Rd.kp {S : Nat → Prop} {k : IntKind} {w w' : World} {A : Option Addr} {xs : List Int} (h : Rd k w A xs) (q : Kp S w w') (hn : ∀ a, A = some a → ¬ S a.block) : Rd k w' A xs := by
  rcases h with h | ⟨b, off, e, hb, hc⟩
  · exact .inl h
  · refine .inr ⟨b, off, e, Nat.lt_of_lt_of_le hb q.size, fun j hj => ?_⟩
    exact (World.cell?_of_block (w := w) (q.block b hb (hn _ e))).trans (hc j hj)
/-- a row that has moved, if it has, to a block that is new since w -/
def Nx (w : World) (r r' : Option Nat) : Prop := r' = r ∨ ∃ k, r' = some k ∧ w.heap.size ≤ k
theorem Nx.step {w w1 : World} {r r1 r2 : Option Nat} (h : Nx w r r1) (hs : w.heap.size ≤ w1.heap.size) (k : Nx w1 r1 r2) : Nx w r r2 := by
  rcases k with rfl | ⟨b, rfl, hb⟩
  · exact h
  · exact .inr ⟨b, rfl, by omega⟩
theorem Nx.of_at {w W : World} {r : Option Nat} {v v' : Value} (h : Nx w r v.ownBlock) (hs : w.heap.size ≤ W.heap.size) (hat : v'.ownBlock = v.ownBlock ∨ v'.ownBlock = some W.heap.size) : Nx w r v'.ownBlock := by
  rcases hat with e | e
  · rw [e]; exact h
  · exact .inr ⟨_, e, hs⟩
/-- the blocks that a row may have been in, seen from w -/
theorem Nx.old {w : World} {r r' : Option Nat} (h : Nx w r r') {k : Nat} (hk : k < w.heap.size) (e : some k = r') : some k = r := by
  rcases h with rfl | ⟨b, rfl, hb⟩
  · exact e
  · cases e; omega

/-! ### bytes and strings -/
theorem strCells_eq (s : ByteArray) : Lib.strCells s = (strI s).map (Value.int .u8) := by simp [Lib.strCells, strI]
theorem strI_of_nums {xs : List Int} (h : Byt xs) : strI (strOfNums xs) = xs := by
  simp only [strI, strOfNums_data, List.map_map]
  conv => rhs; rw [← List.map_id xs]
  apply List.map_congr_left
  intro x hx
  have := h x hx
  simp only [Function.comp, UInt8.toNat_ofNat', id]
  omega
theorem Rd.conv {P : Program} {w : World} {A : Option Addr} {c : Nat} {xs : List Int} (h : Rd .u8 w A xs) (src dst e : TypeId) (hs : P.underlying src = some (.slice e)) (he : P.underlying e = some (.int .u8)) (hd : P.underlying dst = some .string) :
    (convert src dst (.slice A xs.length c)).run P w = .ok (.string (strOfNums xs)) w := by
  cases A with
  | none =>
    rcases h with rfl | ⟨_, _, h, _⟩
    · exact run_convert_bytes_nil w src e hs he 0 c dst hd
    · cases h
  | some ad =>
    rcases h with rfl | ⟨b, off, e1, hb, hc⟩
    · have h0 : (loadCells ad 0).run P w = .ok #[] w := by simp [loadCells, loadCellsFrom]
      rw [run_convert_bytes_string w src dst e _ _ c hs he hd]
      simp [Conv.bytesToString, h0, strOfNums]
      rfl
    · cases e1
      exact run_convert_bytes_arg w src e hs he b off xs.length c xs rfl (fun i hi => by rw [hc i hi, List.getD_eq_getElem?_getD]) dst hd

/-- 'append(b, s...)', s a string: as the library's law, and where the new row lies -/
theorem run_append_string_at {P : Program} (w : World) (base : Nat) (t u ty e : TypeId) (i : TypeInfo) (ht : P.underlying t = some (.slice e)) (hu : P.underlying u = some .string) (hi : P.info? e = some i) (hz : i.zero = some (.int .u8 0))
    (hsize : i.size = 1) (hby : i.bytes = 1) (v : Value) (n : Nat) (xs : List Value) (hown : w.ownsRow base e 1 v n xs) (s : ByteArray)
    (h63 : n + s.size ≤ maxLen) (hbytes : n + s.size ≤ 140737488355328) (hbase : base ≤ w.heap.size) :
    ∃ v' w', (Builtin.append_ #[t, u] ty #[v, .string s]).run P w = .ok v' w' ∧ w'.ownsRow base e 1 v' (n + s.size) (xs ++ Lib.strCells s) ∧ w.grownBy w' v.ownBlock ∧ Nx w v.ownBlock v'.ownBlock := by
  have h63' : n + s.size ≤ 9223372036854775807 := by simp only [maxLen] at h63; omega
  have hown0 := hown
  rcases hown.2 with ⟨rfl, rfl⟩ | ⟨g, cap, cur, rfl, hbg, hg, hnc, hcm, hcs, htake⟩
  · have hx : xs = [] := List.eq_nil_of_length_eq_zero (by simpa using hown.1)
    subst hx
    obtain ⟨v', w', hr, h1, h2, h3⟩ := Lib.run_append_own_string (P := P) w w.heap.size t u ty e i ht hu hi hz hsize hby _ _ _ (World.ownsRow_nil _ _ _ _) s h63 hbytes (Nat.le_refl _)
    obtain ⟨v2, w2, hr2, h12, h22, h32⟩ := Lib.run_append_own_string (P := P) w base t u ty e i ht hu hi hz hsize hby _ _ _ hown0 s h63 hbytes hbase
    rw [hr] at hr2
    cases hr2
    refine ⟨v', w', hr, h12, h2, ?_⟩
    cases hv : v'.ownBlock with
    | none => exact .inl rfl
    | some k => exact .inr ⟨k, rfl, (h1.lt k hv).1⟩
  · obtain ⟨v2, w2, hr2, h12, h22, h32⟩ := Lib.run_append_own_string (P := P) w base t u ty e i ht hu hi hz hsize hby _ _ _ hown0 s h63 hbytes hbase
    refine ⟨v2, w2, hr2, h12, h22, ?_⟩
    by_cases hroom : n + s.size ≤ cap
    · have hcs' : cur.size = cap := by simpa using hcs
      have hr := Lib.run_append_room_string (P := P) w t u ty e i ht hu hi hsize g n cap cur hg s hroom (by omega)
      rw [hr] at hr2
      cases hr2
      exact .inl rfl
    · have holds : ∀ j u, xs[j]? = some u → w.cell? ((⟨g, 0, none⟩ : Addr).add j) = some u := hown0.cells (g := g) rfl
      have hr := Lib.run_append_grow_string (P := P) w t u ty e i (.int .u8 0) ht hu hi hz ⟨g, 0, none⟩ n cap xs (by rw [hsize]; exact hown0.1) holds s (by omega) (by omega) (by rw [hby]; exact growslice_fits (by omega) (by omega))
      rw [hr] at hr2
      cases hr2
      exact .inr ⟨_, rfl, Nat.le_refl _⟩
theorem wpList_append_string_at {P : Program} {w : World} {ops : Array Oper} {rest : List Oper} {o : Oper} {a : Act} {Q : Exit → Act → World → Prop} (hgd : o.guard = none) (sl x : Operand) (t u : TypeId)
    (ho : o.op = .call { callee := .builtin .append, args := #[sl, x], argTypes := #[t, u] })
    (base : Nat) (e : TypeId) (i : TypeInfo) (ht : P.underlying t = some (.slice e)) (hu : P.underlying u = some .string) (hi : P.info? e = some i) (hz : i.zero = some (.int .u8 0))
    (hsize : i.size = 1) (hby : i.bytes = 1) (v : Value) (n : Nat) (xs : List Value) (hs : a.eval sl = v) (hown : w.ownsRow base e 1 v n xs) (s : ByteArray) (hx : a.eval x = .string s)
    (h63 : n + s.size ≤ maxLen) (hbytes : n + s.size ≤ 140737488355328) (hbase : base ≤ w.heap.size)
    (h : ∀ v' w', w'.ownsRow base e 1 v' (n + s.size) (xs ++ Lib.strCells s) → w.grownBy w' v.ownBlock → Nx w v.ownBlock v'.ownBlock → wpList P ops Q rest (a.put o.dst v') w') : wpList P ops Q (o :: rest) a w := by
  refine wpList_plain hgd fun K hK => ?_
  obtain ⟨v', w', hr, h2, h3, h4⟩ := run_append_string_at (P := P) w base t u o.type e i ht hu hi hz hsize hby v n xs hown s h63 hbytes hbase
  unfold Oper.wp execOp
  simp only [ho, resolve, invoke, builtin, Sem.run_bind, Sem.run_pure, Result.andThen_ok, List.map_toArray, List.map_cons, List.map_nil, hs, hx, hr]
  exact hK _ _ (h v' w' h2 h3 h4)
theorem own_slice' {w : World} {base e size n : Nat} {v : Value} {xs : List Value} (h : w.ownsRow base e size v n xs) : ∃ A c, v = .slice A n c := by
  rcases h.2 with ⟨rfl, rfl⟩ | ⟨g, cap, _, rfl, _⟩
  · exact ⟨none, 0, rfl⟩
  · exact ⟨_, cap, rfl⟩
theorem Rd.tail {k : IntKind} {w : World} {b off : Nat} {x : Int} {xs : List Int} (h : Rd k w (some ⟨b, off, none⟩) (x :: xs)) : Rd k w (some ⟨b, off + 1, none⟩) xs := by
  rcases h with h | ⟨b', off', e, hb, hc⟩
  · cases h
  · cases e
    refine .inr ⟨b, off + 1, rfl, hb, fun j hj => ?_⟩
    have := hc (j + 1) (by simp; omega)
    rw [show off + 1 + j = off + (j + 1) from by omega]
    simpa using this

theorem own_cap {w : World} {base e size n c : Nat} {A : Option Addr} {xs : List Value} (h : w.ownsRow base e size (.slice A n c) n xs) : n ≤ c := by
  rcases h.2 with ⟨e1, rfl⟩ | ⟨g, cap, _, e1, _, _, hc, _⟩
  · omega
  · cases e1; exact hc
end Go.Wm
