/- Maps from ints to any values, made by the call: what they read as. No program in sight. -/
import Derived.Test.YtajdkcpcgfipbaaArr
import Derived.Maps.OwnSet
import Derived.Maps.RangeWalk
namespace Go.Wm
open Go.RowKit Go.Maps

/-- how a value in a map reads: as itself -/
def Rh (v : Value) : Option (DataW Value × List MemPlace) := some (.held v, [])
def I64 (x : Int) : Prop := (Lit.int .i64 x).wf = true
theorem i64_iff (x : Int) : I64 x ↔ -9223372036854775808 ≤ x ∧ x ≤ 9223372036854775807 := by
  have e1 : IntKind.i64.min = -9223372036854775808 := by decide
  have e2 : IntKind.i64.max = 9223372036854775807 := by decide
  simp only [I64, Lit.wf, e1, e2, Bool.and_eq_true, decide_eq_true_eq]
/-- BLOCK b IS A MAP FROM INTS: at key x it holds m x; at most n entries -/
def IMap (P : Program) (kt : TypeId) (w : World) (b n : Nat) (m : Int → Option Value) : Prop :=
  ∃ D, w.ownsMap P kt Rh b n D ∧ ∀ x, I64 x → ∀ z, D.atKey (.int .i64 x) z = match m x with | some v => .held v | none => z
section
variable {P : Program} {kt : TypeId} {w w' : World} {b n : Nat} {m : Int → Option Value}
theorem IMap.made (P : Program) (kt : TypeId) (w : World) : IMap P kt (w.alloc (.map #[] 0)) w.heap.size 0 (fun _ => none) :=
  ⟨_, World.ownsMap_made w P kt Rh, fun _ _ _ => rfl⟩
theorem IMap.lt (h : IMap P kt w b n m) : b < w.heap.size := by obtain ⟨D, h, _⟩ := h; exact h.lt
theorem IMap.mono (h : IMap P kt w b n m) {n' : Nat} (hn : n ≤ n') : IMap P kt w b n' m := by obtain ⟨D, h, k⟩ := h; exact ⟨D, h.mono hn, k⟩
theorem IMap.is (h : IMap P kt w b n m) : ∃ es clock, w.heap[b]? = some (.map es clock) := by
  obtain ⟨D, ⟨es, clock, hb, _⟩, _⟩ := h; exact ⟨es, clock, hb⟩
theorem IMap.kp {S : Nat → Prop} (h : IMap P kt w b n m) (k : Kp S w w') (hn : ¬ S b) : IMap P kt w' b n m := by
  have hlt := h.lt
  obtain ⟨D, ⟨es, clock, hb, rest⟩, q⟩ := h
  exact ⟨D, ⟨es, clock, (k.block b hlt hn).trans hb, rest⟩, q⟩
theorem IMap.ext (h : IMap P kt w b n m) {m' : Int → Option Value} (e : ∀ x, I64 x → m' x = m x) : IMap P kt w b n m' := by
  obtain ⟨D, h, k⟩ := h; exact ⟨D, h, fun x hx z => by rw [k x hx z, e x hx]⟩
theorem IMap.lookup {t e : TypeId} (h : IMap P kt w b n m) (hk : P.underlying kt = some (.int .i64)) (ht : P.underlying t = some (.map kt e)) {zv : Value} (hz : (zeroValue e).run P w = .ok zv w) {x : Int} (hx : I64 x) :
    (Instr.lookup t (.map (some b)) (.int .i64 x) false).run P w = .ok ((m x).getD zv) w := by
  obtain ⟨D, h, k⟩ := h
  obtain ⟨v, ps, hr, hv⟩ := h.lookup (int_keyed hk) ht hz (zd := .held zv) (zp := []) rfl (keyOf_int_mk hk hx)
  rw [k x hx] at hv
  simp only [Rh, Option.some.injEq, Prod.mk.injEq] at hv
  rw [hr]
  congr 1
  cases hm : m x with
  | none => rw [hm] at hv; simpa using hv.1
  | some u => rw [hm] at hv; simpa using hv.1
theorem IMap.lookup_ok {t e : TypeId} (h : IMap P kt w b n m) (hk : P.underlying kt = some (.int .i64)) (ht : P.underlying t = some (.map kt e)) {zv : Value} (hz : (zeroValue e).run P w = .ok zv w) {x : Int} (hx : I64 x) :
    (Instr.lookup t (.map (some b)) (.int .i64 x) true).run P w = .ok (.tuple #[(m x).getD zv, .bool (m x).isSome]) w := by
  obtain ⟨D, h, k⟩ := h
  obtain ⟨v, ps, hr, hv⟩ := h.look_ok (int_keyed hk) ht hz (zd := .held zv) (zp := []) rfl (keyOf_int_mk hk hx)
  rw [k x hx] at hv
  simp only [Rh, Option.some.injEq, Prod.mk.injEq] at hv
  rw [hr]
  cases hm : m x with
  | none =>
    have : has D (.int .i64 x) = false := has_false_of_atKey (fun z => by rw [k x hx, hm])
    rw [hm] at hv
    simp only [this]
    simpa using hv.1
  | some u =>
    have : has D (.int .i64 x) = true := has_true_of_atKey (y := .held u) (fun z => by rw [k x hx, hm])
    rw [hm] at hv
    simp only [this]
    simpa using hv.1
theorem IMap.store {t e : TypeId} (h : IMap P kt w b n m) (hk : P.underlying kt = some (.int .i64)) (ht : P.underlying t = some (.map kt e)) (hn : n < maxLen) {x : Int} (hx : I64 x) (v : Value) :
    ∃ w', (Instr.mapUpdate t (.map (some b)) (.int .i64 x) v).run P w = .ok () w' ∧ IMap P kt w' b (n + 1) (fun y => if y = x then some v else m y) ∧ w.grownBy w' (some b) := by
  obtain ⟨D, h, k⟩ := h
  have hkl : WideAt.IsKeyLit (Lit.int .i64 x) := (int_keyed hk).key (keyOf_int_mk hk hx)
  have hm := h.isMap
  obtain ⟨w', hr, h1, h2⟩ := h.update (int_keyed hk) ht hn (d := .held v) (ps := []) (keyOf_int_mk hk hx) (val := v) rfl
  refine ⟨w', hr, ⟨_, h1, fun y hy z => ?_⟩, h2⟩
  by_cases e : y = x
  · subst e; simp only [if_true]; exact atKey_put_same hm hkl _ _
  · simp only [if_neg e]; rw [atKey_put_other (fun e' => e (by cases e'; rfl)), k y hy z]
theorem IMap.drop {t e : TypeId} (h : IMap P kt w b n m) (hk : P.underlying kt = some (.int .i64)) (ht : P.underlying t = some (.map kt e)) {x : Int} (hx : I64 x) (ty : TypeId) :
    ∃ w', (Builtin.delete_ #[t, kt] ty #[.map (some b), .int .i64 x]).run P w = .ok (.tuple #[]) w' ∧ IMap P kt w' b n (fun y => if y = x then none else m y) ∧ w.grownBy w' (some b) := by
  obtain ⟨D, h, k⟩ := h
  obtain ⟨w', hr, h1, h2⟩ := h.drop (int_keyed hk) ht (keyOf_int_mk hk hx) ty
  refine ⟨w', hr, ⟨_, h1, fun y hy z => ?_⟩, h2.grown⟩
  by_cases e : y = x
  · subst e; simp only [if_true]; exact atKey_del_same _
  · simp only [if_neg e]; rw [atKey_del_other (fun e' => e (by cases e'; rfl)), k y hy z]
end
theorem wpList_mapUpdate_imap {P : Program} {w : World} {ops : Array Oper} {rest : List Oper} {o : Oper} {a : Act} {Q : Exit → Act → World → Prop} (hg : o.guard = none) (mo x v : Operand) (t : TypeId) (hop : o.op = Op.mapUpdate t mo x v)
    (kt e : TypeId) (hk : P.underlying kt = some (.int .i64)) (ht : P.underlying t = some (.map kt e)) (b n : Nat) (m : Int → Option Value) (hm : a.eval mo = .map (some b)) (h : IMap P kt w b n m) (hn : n < maxLen)
    (y : Int) (val : Value) (hx : a.eval x = .int .i64 y) (hv : a.eval v = val) (hy : I64 y)
    (hK : ∀ w', IMap P kt w' b (n + 1) (fun z => if z = y then some val else m z) → w.grownBy w' (some b) → wpList P ops Q rest (a.put o.dst undef) w') : wpList P ops Q (o :: rest) a w := by
  refine wpList_plain hg fun K' hK' => ?_
  obtain ⟨w', hrun, r1, r2⟩ := h.store hk ht hn hy val
  unfold Oper.wp
  simp [execOp, hop, hm, hx, hv, hrun, Result.andThen]
  exact hK' _ _ (hK w' r1 r2)
theorem wpList_delete_imap {P : Program} {w : World} {ops : Array Oper} {rest : List Oper} {o : Oper} {a : Act} {Q : Exit → Act → World → Prop} (hg : o.guard = none) (mo x : Operand) (t kt : TypeId) (hop : o.op = Op.call { callee := Callee.builtin Builtin.delete, args := #[mo, x], argTypes := #[t, kt] })
    (e : TypeId) (hk : P.underlying kt = some (.int .i64)) (ht : P.underlying t = some (.map kt e)) (b n : Nat) (m : Int → Option Value) (hm : a.eval mo = .map (some b)) (h : IMap P kt w b n m)
    (y : Int) (hx : a.eval x = .int .i64 y) (hy : I64 y)
    (hK : ∀ w', IMap P kt w' b n (fun z => if z = y then none else m z) → w.grownBy w' (some b) → wpList P ops Q rest (a.put o.dst (.tuple #[])) w') : wpList P ops Q (o :: rest) a w := by
  refine wpList_plain hg fun K' hK' => ?_
  obtain ⟨w', hrun, r1, r2⟩ := h.drop hk ht hy o.type
  unfold Oper.wp execOp
  simp only [hop, resolve, invoke, builtin, Sem.run_bind, Sem.run_pure, Result.andThen_ok, List.map_toArray, List.map_cons, List.map_nil, hm, hx, hrun]
  exact hK' _ _ (hK w' r1 r2)
end Go.Wm
